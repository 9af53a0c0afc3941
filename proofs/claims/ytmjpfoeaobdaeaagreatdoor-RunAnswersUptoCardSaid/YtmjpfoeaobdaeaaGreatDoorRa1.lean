/-
  PARTS: GENERAL LAWS ON WORLDS AND DATA: which blocks a call may have changed ('Chg'), and what a row of cells reads as ('Dat'). No program in sight.; WHAT THE FUNCTIONS OF THE LAYERS 1 TO 4 COMPUTE, in plain Lean: lines, scripts, hunks. No program in sight.; WHAT A ROW OF CELLS READS AS: 'Dat', for the types of this program. No program in sight.; FROM A LAW's WALK TO ITS STATEMENT: how the arguments read ('Opens'), and what is to be said behind the call ('post_law').; THE WALKS OF LAYER 1: One, Check, Texts.; errors.As AT AN Errno, and plain.Told: of nil OK, of an Errno it.; WHAT ALL CARDS OF A DOOR SEAT WANT: the listed variable's cell, a world that meets the condition.; WHAT THE CARDS WANT WHERE utf8's TABLES ARE LISTED: the variables' cells, a world that meets the condition.; THE PACKAGE VARIABLES that strconv and strings read, as the walks want them.; WHAT THE CARDS WANT WHERE strconv's TABLES AND ERRORS ARE LISTED: the variables' cells, a world that meets the condition.; THE ERRORS' CELLS OF strconv AT A CALL.; WHAT THE CARDS WANT WHERE strconv's TABLES AND ERRORS AND errors.errorType ARE LISTED.; AS MANY BLOCKS AS PACKAGE VARIABLES at a call.
-/
import Derived.WalkKit
import Derived.Deep.Draws
import GoSem.Core.Value
import Derived.Test.YtmjpfoeaobdaeaaGreatDoorRows
import Derived.ProofKit
import Derived.OpenShut
import Derived.JoinedCond
import Derived.Deep.Slices
import Derived.Deep.Strs
import Derived.Test.YtmjpfoeaobdaeaaGreatDoorRaShelf
import Derived.WalkLawsBesides
import Derived.WalkSpells
import Derived.Deep.QuietTactic
import Derived.BigQuiet
import Derived.Lib.Hide
import Derived.Stop.Asserts
import Derived.RowKitTokens
import Derived.LaidEql
import Derived.Test.YtmjpfoeaobdaeaaGreatDoorCards
import Derived.Test.YtmjpfoeaobdaeaaGreatDoorTie
import Derived.Deep.DeepHandedRow
import Derived.LaidLaws
import Derived.LaidHandle
import Derived.ChangeMaps5
import Derived.Lib.AppendIntMem
import Derived.Lib.LaidTab
import Derived.LaidSub
set_option linter.unusedVariables false
set_option linter.unusedSimpArgs false
namespace Go.Proofs.YtmjpfoeaobdaeaaGreatDoor
open Go.RowKit

structure Chg (O : Nat → Prop) (w w' : World) : Prop where
  os : w'.os = w.os
  tape : w'.tape = w.tape
  output : w'.output = w.output
  size : w.heap.size ≤ w'.heap.size
  block : ∀ k, k < w.heap.size → ¬ O k → w'.heap[k]? = w.heap[k]?

def Never : Nat → Prop := fun _ => False
def From (B : Nat) : Nat → Prop := fun k => B ≤ k
def Old (B : Nat) : Nat → Prop := fun k => k < B
def OwnB (v : Value) : Nat → Prop := fun k => v.ownBlock = some k

theorem Chg.refl (O : Nat → Prop) (w : World) : Chg O w w := ⟨rfl, rfl, rfl, Nat.le_refl _, fun _ _ _ => rfl⟩
theorem Chg.trans {O : Nat → Prop} {a b c : World} (h : Chg O a b) (k : Chg O b c) : Chg O a c :=
  ⟨k.os.trans h.os, k.tape.trans h.tape, k.output.trans h.output, Nat.le_trans h.size k.size,
    fun i hi ho => (k.block i (Nat.lt_of_lt_of_le hi h.size) ho).trans (h.block i hi ho)⟩
theorem Chg.mono {O O' : Nat → Prop} {w w' : World} (h : Chg O w w') (hO : ∀ k, k < w.heap.size → O k → O' k) : Chg O' w w' :=
  ⟨h.os, h.tape, h.output, h.size, fun k hk hn => h.block k hk (fun ho => hn (hO k hk ho))⟩
theorem Chg.trans' {O O' : Nat → Prop} {a b c : World} (h : Chg O a b) (k : Chg O' b c) (hO : ∀ i, i < a.heap.size → O' i → O i) : Chg O a c :=
  ⟨k.os.trans h.os, k.tape.trans h.tape, k.output.trans h.output, Nat.le_trans h.size k.size,
    fun i hi ho => (k.block i (Nat.lt_of_lt_of_le hi h.size) (fun hx => ho (hO i hi hx))).trans (h.block i hi ho)⟩
theorem Chg.drew {O : Nat → Prop} {a w : World} (h : Chg O a w) : Chg O a w.drew := ⟨h.os, h.tape, h.output, h.size, h.block⟩
theorem Chg.drewN {O : Nat → Prop} {a w : World} (h : Chg O a w) (n : Nat) : Chg O a (w.drewN n) := ⟨h.os, h.tape, h.output, h.size, h.block⟩
theorem Chg.alloc {O : Nat → Prop} {a w : World} (h : Chg O a w) (o : Obj) : Chg O a (w.alloc o) :=
  ⟨h.os, h.tape, h.output, Nat.le_trans h.size (by simp), fun k hk hn => by rw [Below.heap_alloc _ _ _ (Nat.lt_of_lt_of_le hk h.size)]; exact h.block k hk hn⟩
theorem Chg.setCell {O : Nat → Prop} {a w : World} (h : Chg O a w) {p : Addr} (hp : a.heap.size ≤ p.block ∨ O p.block) (u : Value) : Chg O a (w.setCell p u) :=
  ⟨h.os, h.tape, h.output, by simpa [World.setCell] using h.size, fun k hk hn => by
    rw [Below.heap_setCell _ _ _ _ (by rintro rfl; rcases hp with hp | hp; · omega
                                       · exact hn hp)]
    exact h.block k hk hn⟩
theorem Chg.of_grown {w w' : World} {row : Option Nat} (h : w.grownBy w' row) : Chg (fun k => row = some k) w w' :=
  ⟨h.os, h.tape, h.output, h.size, fun k hk hn => h.block k hk (fun e => hn e.symm)⟩
theorem Chg.of_below {w w' : World} (h : Below w.heap.size w w') : Chg Never w w' :=
  ⟨h.os, h.tape, h.output, h.size, fun k hk _ => h.block k hk⟩
theorem Chg.never {w w' : World} (h : Chg Never w w') : Below w.heap.size w w' :=
  ⟨h.os, h.tape, h.output, h.size, fun k hk => h.block k hk (fun x => x)⟩
theorem Chg.cell {O : Nat → Prop} {w w' : World} (h : Chg O w w') {p : Addr} {v : Value} (hc : w.cell? p = some v) (hp : ¬ O p.block) : w'.cell? p = some v := by
  have hlt := World.block_lt_of_cell? w p hc
  rw [← hc]; exact World.cell?_of_block (h.block _ hlt hp)
theorem Chg.cellNever {w w' : World} (h : Chg Never w w') {p : Addr} {v : Value} (hc : w.cell? p = some v) : w'.cell? p = some v := h.cell hc (fun x => x)
theorem Chg.frozen {O : Nat → Prop} {w w' : World} (h : Chg O w w') {p : Addr} (hlt : p.block < w.heap.size) (hp : ¬ O p.block) : w'.frozen? p = w.frozen? p :=
  World.frozen?_of_block (h.block _ hlt hp)
end Go.Proofs.YtmjpfoeaobdaeaaGreatDoor
namespace Go.Proofs.YtmjpfoeaobdaeaaGreatDoor

structure Mark where
  sign : Int
  text : ByteArray
  deriving DecidableEq
structure Hunk where
  old : Int
  new : Int
  marks : List Mark
  deriving DecidableEq
structure File where
  path : ByteArray
  lines : List ByteArray
  deriving DecidableEq
structure Change where
  what : Int
  path : ByteArray
  hunks : List Hunk
  deriving DecidableEq
structure Mail where
  sender : ByteArray
  subject : ByteArray
  ident : ByteArray
  body : List UInt8
  deriving DecidableEq

def firstOf {α : Type} (f : α → Int) : List α → Int
  | [] => 0
  | x :: r => if f x = 0 then firstOf f r else f x

theorem firstOf_zero {α : Type} (f : α → Int) : ∀ l : List α, firstOf f l = 0 ↔ ∀ x ∈ l, f x = 0
  | [] => by simp [firstOf]
  | x :: r => by
    simp only [firstOf, List.mem_cons, forall_eq_or_imp]
    by_cases h : f x = 0
    · simp [h, firstOf_zero f r]
    · simp [h]

def hasNl (s : ByteArray) : Bool := s.data.toList.contains 10
def lineFault (s : ByteArray) : Int := if hasNl s then 2 else if 80 < s.size then 3 else 0
def linesFault (l : List ByteArray) : Int := if 60 < l.length then 3 else firstOf lineFault l
def markFault (m : Mark) : Int := if m.sign ≠ 32 ∧ m.sign ≠ 45 ∧ m.sign ≠ 43 then 1 else lineFault m.text
def scriptFault (s : List Mark) : Int := if 120 < s.length then 3 else firstOf markFault s

def those (s : List Mark) (no : Int) : List ByteArray := (s.filter fun m => m.sign ≠ no).map (·.text)
def oldOf (s : List Mark) : List ByteArray := those s 43
def newOf (s : List Mark) : List ByteArray := those s 45
def changes (s : List Mark) : Nat := (s.filter fun m => m.sign ≠ 32).length

def far : List ByteArray → List ByteArray → Nat
  | [], b => b.length
  | x :: a, [] => (x :: a).length
  | x :: a, y :: b => if x = y then far a b else 1 + min (far a (y :: b)) (far (x :: a) b)
termination_by a b => a.length + b.length

def script : List ByteArray → List ByteArray → List Mark
  | [], [] => []
  | x :: a, [] => ⟨45, x⟩ :: script a []
  | [], y :: b => ⟨43, y⟩ :: script [] b
  | x :: a, y :: b =>
    if x = y then ⟨32, x⟩ :: script a b
    else if far a (y :: b) + 1 = far (x :: a) (y :: b) then ⟨45, x⟩ :: script a (y :: b)
    else ⟨43, y⟩ :: script (x :: a) b
termination_by a b => a.length + b.length

def oldN (s : List Mark) : Nat := (those s 43).length
def newN (s : List Mark) : Nat := (those s 45).length
def hasChange (s : List Mark) : Bool := s.any fun m => m.sign ≠ 32
def oneFault (h : Hunk) (fin more : Int) : Int :=
  if scriptFault h.marks ≠ 0 then scriptFault h.marks
  else if hasChange h.marks = false then 4
  else if h.old < 0 ∨ 60 < h.old ∨ h.new < 0 ∨ 60 < h.new ∨ 60 < h.old + oldN h.marks ∨ 60 < h.new + newN h.marks then 1
  else if h.old < fin ∨ h.new ≠ h.old + more then 2
  else 0
def hunksGo : Nat → Int → Int → List Hunk → Nat × Int
  | _, _, _, [] => (0, 0)
  | i, fin, more, h :: r => if oneFault h fin more = 0 then hunksGo (i + 1) (h.old + oldN h.marks) (more + newN h.marks - oldN h.marks) r else (i, oneFault h fin more)
def hunksFault (l : List Hunk) : Nat × Int := if 60 < l.length then (0, 3) else hunksGo 0 0 0 l
def turnMark (m : Mark) : Mark := ⟨if m.sign = 45 then 43 else if m.sign = 43 then 45 else m.sign, m.text⟩
def turnHunk (h : Hunk) : Hunk := ⟨h.new, h.old, h.marks.map turnMark⟩
end Go.Proofs.YtmjpfoeaobdaeaaGreatDoor
namespace Go.Proofs.YtmjpfoeaobdaeaaGreatDoor
open Go.RowKit

class Dat (α : Type) where
  n : Nat
  rd : World → (Nat → Prop) → List Value → α → Prop
  bulk : α → Nat
  pos : 0 < n
  len : ∀ {w O cs x}, rd w O cs x → cs.length = n
  one : ∀ {w O cs x}, rd w O cs x → ∀ u ∈ cs, u.oneCell' = true
  keep : ∀ {w w' : World} {O O' O'' : Nat → Prop} {cs x}, rd w O cs x → Chg O' w w' → (∀ k, k < w.heap.size → O' k → O k) → (∀ k, k < w.heap.size → O'' k → O k) → rd w' O'' cs x

def Rdv {α : Type} [Dat α] (w : World) (O : Nat → Prop) (v : Value) (x : α) : Prop := Dat.rd w O [v] x

theorem Dat.never {α : Type} [Dat α] {w w' : World} {O : Nat → Prop} {cs : List Value} {x : α} (h : Dat.rd w O cs x) (hc : Chg Never w w') : Dat.rd w' O cs x :=
  Dat.keep h hc (fun _ _ h => h.elim) (fun _ _ h => h)
theorem Rdv.never {α : Type} [Dat α] {w w' : World} {O : Nat → Prop} {v : Value} {x : α} (h : Rdv w O v x) (hc : Chg Never w w') : Rdv w' O v x := Dat.never h hc
theorem Rdv.keep {α : Type} [Dat α] {w w' : World} {O O' O'' : Nat → Prop} {v : Value} {x : α} (h : Rdv w O v x) (hc : Chg O' w w') (h1 : ∀ k, k < w.heap.size → O' k → O k) (h2 : ∀ k, k < w.heap.size → O'' k → O k) : Rdv w' O'' v x := Dat.keep h hc h1 h2
theorem Rdv.sub {α : Type} [Dat α] {w : World} {O O' : Nat → Prop} {v : Value} {x : α} (h : Rdv w O v x) (h2 : ∀ k, k < w.heap.size → O' k → O k) : Rdv w O' v x := Dat.keep h (Chg.refl Never w) (fun _ _ h => h.elim) h2

def I64 (x : Int) : Prop := -9223372036854775808 ≤ x ∧ x ≤ 9223372036854775807
instance : Dat Int where
  n := 1
  rd _ _ cs x := cs = [.int .i64 x] ∧ I64 x
  bulk _ := 1
  pos := by decide
  len := by rintro _ _ _ _ ⟨rfl, _⟩; rfl
  one := by rintro _ _ _ _ ⟨rfl, _⟩ u hu; simp at hu; subst hu; rfl
  keep := by intro _ _ _ _ _ _ _ h _ _ _; exact h
instance : Dat Bool where
  n := 1
  rd _ _ cs x := cs = [.bool x]
  bulk _ := 1
  pos := by decide
  len := by rintro _ _ _ _ rfl; rfl
  one := by rintro _ _ _ _ rfl u hu; simp at hu; subst hu; rfl
  keep := by intro _ _ _ _ _ _ _ h _ _ _; exact h
instance : Dat UInt8 where
  n := 1
  rd _ _ cs x := cs = [.int .u8 x.toNat]
  bulk _ := 1
  pos := by decide
  len := by rintro _ _ _ _ rfl; rfl
  one := by rintro _ _ _ _ rfl u hu; simp at hu; subst hu; rfl
  keep := by intro _ _ _ _ _ _ _ h _ _ _; exact h
instance : Dat ByteArray where
  n := 1
  rd _ _ cs x := cs = [.string x] ∧ x.size ≤ maxLen
  bulk x := x.size + 1
  pos := by decide
  len := by rintro _ _ _ _ ⟨rfl, _⟩; rfl
  one := by rintro _ _ _ _ ⟨rfl, _⟩ u hu; simp at hu; subst hu; rfl
  keep := by intro _ _ _ _ _ _ _ h _ _ _; exact h
instance : Dat Mark where
  n := 2
  rd _ _ cs m := cs = [.int .u8 m.sign, .string m.text] ∧ 0 ≤ m.sign ∧ m.sign < 256 ∧ m.text.size ≤ maxLen
  bulk m := m.text.size + 3
  pos := by decide
  len := by rintro _ _ _ _ ⟨rfl, _⟩; rfl
  one := by rintro _ _ _ _ ⟨rfl, _⟩ u hu; simp at hu; rcases hu with rfl | rfl <;> rfl
  keep := by intro _ _ _ _ _ _ _ h _ _ _; exact h

def CellsAt (w : World) (b off : Nat) (es : List Value) : Prop := ∀ (j : Nat) (u : Value), es[j]? = some u → w.cell? ⟨b, off + j, none⟩ = some u

theorem CellsAt.lt {w : World} {b off : Nat} {es : List Value} (h : CellsAt w b off es) (hn : 0 < es.length) : b < w.heap.size :=
  World.block_lt_of_cell? w ⟨b, off + 0, none⟩ (h 0 es[0] (by simp [hn]))
theorem CellsAt.keep {w w' : World} {O : Nat → Prop} {b off : Nat} {es : List Value} (h : CellsAt w b off es) (hc : Chg O w w') (hb : ¬ O b) : CellsAt w' b off es :=
  fun j u hj => hc.cell (p := ⟨b, off + j, none⟩) (h j u hj) hb

def Elems {α : Type} [Dat α] (w : World) (O : Nat → Prop) (a : Option Addr) (l : List α) : Prop :=
  ∀ (i : Nat) (x : α), l[i]? = some x → ∃ b off es, a = some ⟨b, off, none⟩ ∧ ¬ O b ∧ CellsAt w b (off + i * Dat.n α) es ∧ Dat.rd w O es x

theorem Elems.keep {α : Type} [Dat α] {w w' : World} {O O' O'' : Nat → Prop} {a : Option Addr} {l : List α} (h : Elems w O a l) (hc : Chg O' w w') (h1 : ∀ k, k < w.heap.size → O' k → O k) (h2 : ∀ k, k < w.heap.size → O'' k → O k) : Elems w' O'' a l := by
  intro i x hx
  obtain ⟨b, off, es, ha, hb, hcs, hr⟩ := h i x hx
  have hlt := hcs.lt (by rw [Dat.len hr]; exact Dat.pos (α := α))
  exact ⟨b, off, es, ha, fun hb' => hb (h2 b hlt hb'), hcs.keep hc (fun hb' => hb (h1 b hlt hb')), Dat.keep hr hc h1 h2⟩

instance {α : Type} [Dat α] : Dat (List α) where
  n := 1
  rd w O cs l := ∃ a cap, cs = [.slice a l.length cap] ∧ l.length ≤ cap ∧ cap ≤ maxLen ∧ Elems w O a l
  bulk l := (l.map Dat.bulk).sum + 1
  pos := by decide
  len := by rintro _ _ _ _ ⟨a, cap, rfl, _⟩; rfl
  one := by rintro _ _ _ _ ⟨a, cap, rfl, _⟩ u hu; simp at hu; subst hu; rfl
  keep := by
    rintro w w' O O' O'' cs l ⟨a, cap, rfl, h1, h2, h3⟩ hc k1 k2
    exact ⟨a, cap, rfl, h1, h2, h3.keep hc k1 k2⟩

instance : Dat Hunk where
  n := 3
  rd w O cs h := ∃ v, cs = [.int .i64 h.old, .int .i64 h.new, v] ∧ Dat.rd w O [v] h.marks
  bulk h := Dat.bulk h.marks + 3
  pos := by decide
  len := by rintro _ _ _ _ ⟨v, rfl, _⟩; rfl
  one := by
    rintro _ _ _ _ ⟨v, rfl, hv⟩ u hu
    simp only [List.mem_cons, List.not_mem_nil, or_false] at hu
    rcases hu with rfl | rfl | rfl
    · rfl
    · rfl
    · exact Dat.one hv _ (by simp)
  keep := by
    rintro w w' O O' O'' cs l ⟨v, rfl, h⟩ hc k1 k2
    exact ⟨v, rfl, Dat.keep h hc k1 k2⟩
instance : Dat File where
  n := 2
  rd w O cs h := ∃ v, cs = [.string h.path, v] ∧ h.path.size ≤ maxLen ∧ Dat.rd w O [v] h.lines
  bulk h := h.path.size + Dat.bulk h.lines + 2
  pos := by decide
  len := by rintro _ _ _ _ ⟨v, rfl, _⟩; rfl
  one := by
    rintro _ _ _ _ ⟨v, rfl, _, hv⟩ u hu
    simp only [List.mem_cons, List.not_mem_nil, or_false] at hu
    rcases hu with rfl | rfl
    · rfl
    · exact Dat.one hv _ (by simp)
  keep := by
    rintro w w' O O' O'' cs l ⟨v, rfl, hp, h⟩ hc k1 k2
    exact ⟨v, rfl, hp, Dat.keep h hc k1 k2⟩
instance : Dat Change where
  n := 3
  rd w O cs h := ∃ v, cs = [.int .i64 h.what, .string h.path, v] ∧ h.path.size ≤ maxLen ∧ Dat.rd w O [v] h.hunks
  bulk h := h.path.size + Dat.bulk h.hunks + 3
  pos := by decide
  len := by rintro _ _ _ _ ⟨v, rfl, _⟩; rfl
  one := by
    rintro _ _ _ _ ⟨v, rfl, _, hv⟩ u hu
    simp only [List.mem_cons, List.not_mem_nil, or_false] at hu
    rcases hu with rfl | rfl | rfl
    · rfl
    · rfl
    · exact Dat.one hv _ (by simp)
  keep := by
    rintro w w' O O' O'' cs l ⟨v, rfl, hp, h⟩ hc k1 k2
    exact ⟨v, rfl, hp, Dat.keep h hc k1 k2⟩
instance : Dat Mail where
  n := 4
  rd w O cs m := ∃ v, cs = [.string m.sender, .string m.subject, .string m.ident, v] ∧ m.sender.size ≤ maxLen ∧ m.subject.size ≤ maxLen ∧ m.ident.size ≤ maxLen ∧ Dat.rd w O [v] m.body
  bulk m := m.sender.size + m.subject.size + m.ident.size + Dat.bulk m.body + 4
  pos := by decide
  len := by rintro _ _ _ _ ⟨v, rfl, _⟩; rfl
  one := by
    rintro _ _ _ _ ⟨v, rfl, _, _, _, hv⟩ u hu
    simp only [List.mem_cons, List.not_mem_nil, or_false] at hu
    rcases hu with rfl | rfl | rfl | rfl
    · rfl
    · rfl
    · rfl
    · exact Dat.one hv _ (by simp)
  keep := by
    rintro w w' O O' O'' cs l ⟨v, rfl, h1, h2, h3, h⟩ hc k1 k2
    exact ⟨v, rfl, h1, h2, h3, Dat.keep h hc k1 k2⟩
instance : Dat (Int × Int) where
  n := 2
  rd _ _ cs x := cs = [.int .i64 x.1, .int .i64 x.2]
  bulk _ := 3
  pos := by decide
  len := by rintro _ _ _ _ rfl; rfl
  one := by rintro _ _ _ _ rfl u hu; simp at hu; rcases hu with rfl | rfl <;> rfl
  keep := by intro _ _ _ _ _ _ _ h _ _ _; exact h

theorem rdv_slice {α : Type} [Dat α] {w : World} {O : Nat → Prop} {v : Value} {l : List α} (h : Rdv w O v l) : ∃ a cap, v = .slice a l.length cap ∧ l.length ≤ cap ∧ cap ≤ maxLen ∧ Elems w O a l := by
  obtain ⟨a, cap, e, h1⟩ := h
  simp only [List.cons.injEq, and_true] at e
  exact ⟨a, cap, e, h1⟩
theorem rdv_nil {α : Type} [Dat α] (w : World) (O : Nat → Prop) : Rdv w O (.slice none 0 0) ([] : List α) :=
  ⟨none, 0, rfl, Nat.le_refl _, Nat.zero_le _, fun i x h => by simp at h⟩

def Own {α : Type} [Dat α] (e : TypeId) (w : World) (O : Nat → Prop) (v : Value) (l : List α) : Prop :=
  ∃ xs, w.ownsRow 0 e (Dat.n α) v l.length xs ∧ (∀ k, v.ownBlock = some k → ¬ O k) ∧
    ∀ (i : Nat) (x : α), l[i]? = some x → Dat.rd w (fun k => O k ∨ v.ownBlock = some k) ((xs.drop (i * Dat.n α)).take (Dat.n α)) x

theorem own_nil {α : Type} [Dat α] (e : TypeId) (w : World) (O : Nat → Prop) : Own e w O (.slice none 0 0) ([] : List α) :=
  ⟨[], World.ownsRow_nil _ _ _ _, fun k h => by simp [Value.ownBlock] at h, fun i x h => by simp at h⟩

theorem elems_str {w : World} {O : Nat → Prop} {a : Option Addr} {l : List ByteArray} (h : Elems w O a l) {i : Nat} {x : ByteArray} (hx : l[i]? = some x) :
    ∃ b off, a = some ⟨b, off, none⟩ ∧ ¬ O b ∧ b < w.heap.size ∧ w.cell? ⟨b, off + i, none⟩ = some (.string x) ∧ x.size ≤ maxLen := by
  obtain ⟨b, off, es, ha, hb, hcs, rfl, hs⟩ := h i x hx
  refine ⟨b, off, ha, hb, hcs.lt (by simp), ?_, hs⟩
  have := hcs 0 (.string x) rfl
  simpa [Dat.n] using this
theorem elems_mark {w : World} {O : Nat → Prop} {a : Option Addr} {l : List Mark} (h : Elems w O a l) {i : Nat} {x : Mark} (hx : l[i]? = some x) :
    ∃ b off, a = some ⟨b, off, none⟩ ∧ ¬ O b ∧ b < w.heap.size ∧ w.cell? ⟨b, off + i * 2, none⟩ = some (.int .u8 x.sign) ∧ w.cell? ⟨b, off + i * 2 + 1, none⟩ = some (.string x.text) ∧ 0 ≤ x.sign ∧ x.sign < 256 ∧ x.text.size ≤ maxLen := by
  obtain ⟨b, off, es, ha, hb, hcs, rfl, hs⟩ := h i x hx
  refine ⟨b, off, ha, hb, hcs.lt (by simp), ?_, ?_, hs⟩
  · simpa [Dat.n] using hcs 0 _ rfl
  · simpa [Dat.n] using hcs 1 _ rfl

def RdAll {α : Type} [Dat α] (w : World) : List Value → List α → Prop
  | _, [] => True
  | cs, x :: l => Dat.rd w Never (cs.take (Dat.n α)) x ∧ RdAll w (cs.drop (Dat.n α)) l
theorem rdAll_get {α : Type} [Dat α] {w : World} : ∀ (l : List α) (cs : List Value), RdAll w cs l → ∀ (i : Nat) (x : α), l[i]? = some x → Dat.rd w Never ((cs.drop (i * Dat.n α)).take (Dat.n α)) x
  | [], _, _, i, x, hx => by simp at hx
  | y :: l, cs, h, 0, x, hx => by
    simp only [List.getElem?_cons_zero, Option.some.injEq] at hx
    subst hx
    simpa using h.1
  | y :: l, cs, h, i + 1, x, hx => by
    have := rdAll_get l _ h.2 i x (by simpa using hx)
    rw [List.drop_drop] at this
    rwa [show (i + 1) * Dat.n α = Dat.n α + i * Dat.n α by rw [Nat.succ_mul, Nat.add_comm]]
theorem rdv_lit {α : Type} [Dat α] {w : World} {g : Nat} {e : TypeId} {cs : List Value} {l : List α} {n : Nat} (h : w.heap[g]? = some (.cells cs.toArray e (0, 0))) (hn : n = l.length) (hm : n ≤ 1000) (hr : RdAll w cs l) :
    Rdv w Never (.slice (some ⟨g, 0, none⟩) n n) l := by
  subst hn
  refine ⟨some ⟨g, 0, none⟩, l.length, rfl, Nat.le_refl _, by unfold maxLen; omega, ?_⟩
  intro i x hx
  have hr' := rdAll_get l cs hr i x hx
  refine ⟨g, 0, _, rfl, fun h => h, ?_, hr'⟩
  intro j u hj
  rw [List.getElem?_take] at hj
  split at hj
  · rw [List.getElem?_drop] at hj
    simp only [World.cell?, h]
    simpa using hj
  · cases hj
end Go.Proofs.YtmjpfoeaobdaeaaGreatDoor
namespace Go.Proofs.YtmjpfoeaobdaeaaGreatDoor
open Go.ChangeShapes Go.WideShapes Go.ChangeAt Go.RowKit

theorem own : ownKnob Tryz.prog.godebug = none := by kernel_rfl
theorem laidOut : laidOutB Tryz.prog = true := by kernel_rfl

theorem trodAll_stays {H : Type} {enc : TypeId × Value → H} {P : Program} (hl : laidOutB P = true) {W W' : World} : ∀ (ts : List TypeId) (vs : List Value) (ds : List (DataW H)) (ps : List MemPlace),
    (∀ t ∈ ts, P.readableRec t = true ∧ t < P.types.size) → DataW.TrodAll enc P W 0 (fun _ => true) true ts vs ds ps → (∀ x ∈ ps, W.sameAt W' x) → (∀ x ∈ ps, x.block < W.heap.size) →
    DataW.TrodAll enc P W' 0 (fun b => decide (b < W.heap.size)) true ts vs ds ps
  | [], [], [], ps, _, h, _, _ => h
  | t :: ts, v :: vs, d :: ds, ps, ht, h, h1, h2 => by
    obtain ⟨p, q, hp, hq, rfl⟩ := h
    refine ⟨p, q, ?_, ?_, rfl⟩
    · exact WideElems.Trod_stays hl (ht t (List.mem_cons_self ..)).1 (ht t (List.mem_cons_self ..)).2 hp (fun x hx => h1 x (List.mem_append_left _ hx)) (fun x hx => by simpa using h2 x (List.mem_append_left _ hx))
    · exact trodAll_stays hl ts vs ds q (fun t' h' => ht t' (List.mem_cons_of_mem _ h')) hq (fun x hx => h1 x (List.mem_append_right _ hx)) (fun x hx => h2 x (List.mem_append_right _ hx))
  | [], [], _ :: _, _, _, h, _, _ => h.elim
  | [], _ :: _, _, _, _, h, _, _ => h.elim
  | _ :: _, [], _, _, _, h, _, _ => h.elim
  | _ :: _, _ :: _, [], _, _, h, _, _ => h.elim

theorem post_law {H : Type} {enc : TypeId × Value → H} {P : Program} {f : Func} {s : ChangeSpec} {W W' : World} {args : Array Value} {ds gs : List (DataW H)} {before : List MemPlace} {tb : TypeId}
    (hW : DataW.Whole enc P f.params.toList s.vars false W args.toList ds gs before) (hvars : s.vars = []) (hres : f.resultTypes = #[tb]) (htb : P.underlying tb = some .bool)
    (hfn : s.fn H ds = { results := [.lit (.bool true)], args := ds }) (hl : laidOutB P = true) (hread : ∀ t ∈ f.params.toList, P.readableRec t = true ∧ t < P.types.size) (hc : Chg Never W W') :
    s.post enc P f false true false false W args (.bool true) W' := by
  have hlt := hW.lt
  have hb : Below W.heap.size W W' := hc.never
  obtain ⟨p, q, h1, h2, h3, h4, h5⟩ := id hW
  rw [hvars] at h2
  have hgs : gs = [] ∧ q = [] := by
    cases gs with
    | nil => exact ⟨rfl, h2⟩
    | cons g gs => exact h2.elim
  obtain ⟨rfl, rfl⟩ := hgs
  rw [List.append_nil] at h3
  subst h3
  refine ⟨ds, [], before, [], before, [], hW, ?_, ?_, ?_, ?_, fun h => by cases h⟩
  · rw [List.append_nil, hfn, hres]
    exact ⟨[], [], ⟨1, by simp [DataW.trod, htb, Value.cells]⟩, rfl, rfl⟩
  · rw [List.append_nil, hfn]
    exact trodAll_stays hl _ _ _ _ hread h1 (fun x hx => hb.same (hlt x hx)) hlt
  · rw [hvars, List.append_nil, hfn]; rfl
  · exact hb.frame _

theorem small_of {H : Type} {l : List (DataW H)} (hk : Rows.uptoSmall H l = true) : Rows.uptoBulkAll l ≤ 1048576 := of_decide_eq_true hk
end Go.Proofs.YtmjpfoeaobdaeaaGreatDoor
namespace Go.Proofs.YtmjpfoeaobdaeaaGreatDoor
open Go.RowKit

def errV (k : Int) : Value := if k = 0 then .nilIface else .iface 64 (.int .i64 k)
theorem errV_zero : errV 0 = .nilIface := rfl
theorem errV_pos {k : Int} (h : k ≠ 0) : errV k = .iface 64 (.int .i64 k) := by simp [errV, h]

theorem indexByte_nonneg (l : List UInt8) (c : UInt8) : decide (0 ≤ Lib.indexByte l c) = l.contains c := by
  have key : ∀ l : List UInt8, -1 ≤ Lib.indexByte l c ∧ (0 ≤ Lib.indexByte l c ↔ c ∈ l) := by
    intro l
    induction l with
    | nil => simp [Lib.indexByte]
    | cons b l ih =>
      obtain ⟨i1, i2⟩ := ih
      simp only [Lib.indexByte]
      by_cases hb : b = c
      · simp [hb]
      · by_cases hm : Lib.indexByte l c = -1
        · have : c ∉ l := fun h => by have := i2.2 h; omega
          simp [hb, hm, this, Ne.symm hb]
        · have : c ∈ l := i2.1 (by omega)
          simp [hb, hm, this]
          omega
  have := (key l).2
  by_cases hm : c ∈ l
  · simp [hm, this.2 hm]
  · have hn : ¬ 0 ≤ Lib.indexByte l c := fun h => hm (this.1 h)
    simp [hm, hn]
theorem hasNl_index (s : ByteArray) : decide (0 ≤ Lib.indexByte s.data.toList 10) = hasNl s := indexByte_nonneg _ _
theorem drop_eq {α : Type} {l : List α} {k : Nat} {x : α} (h : l[k]? = some x) : l.drop k = x :: l.drop (k + 1) := by
  obtain ⟨hk, hx⟩ := List.getElem?_eq_some_iff.1 h
  rw [List.drop_eq_getElem_cons hk, hx]

theorem one_any (s : ByteArray) (w : World) (hs : s.size ≤ maxLen) :
    Calls Tryz.prog 109 #[.string s] w fun e w' => e = .returned (errV (lineFault s)) ∧ w = w' := by
  unfold maxLen at hs
  by_cases h1 : hasNl s = true
  · go_enter Tryz.func109, Tryz.ntmps109
    go_wp2_with (go_at_call 132; refine (Tryz.strings_Contains_one _ _ _).mono ?_; rintro e w' ⟨rfl, rfl⟩; rw [hasNl_index, h1])
    go_ret
    exact ⟨by simp [lineFault, h1, errV], rfl⟩
  · have h1' : hasNl s = false := by simpa using h1
    by_cases h2 : 80 < s.size
    · go_enter Tryz.func109, Tryz.ntmps109
      go_wp2_with (go_at_call 132; refine (Tryz.strings_Contains_one _ _ _).mono ?_; rintro e w' ⟨rfl, rfl⟩; rw [hasNl_index, h1'])
      go_ret
      exact ⟨by simp [lineFault, h1', h2, errV], rfl⟩
    · go_enter Tryz.func109, Tryz.ntmps109
      go_wp2_with (go_at_call 132; refine (Tryz.strings_Contains_one _ _ _).mono ?_; rintro e w' ⟨rfl, rfl⟩; rw [hasNl_index, h1'])
      go_ret
      exact ⟨by simp [lineFault, h1', h2, errV], rfl⟩

theorem check_any (l : List ByteArray) (v : Value) (w : World) (h : Rdv w Never v l) :
    Calls Tryz.prog 72 #[v] w fun e w' => e = .returned (errV (linesFault l)) ∧ w = w' := by
  obtain ⟨a, cap, rfl, h1, h2, h3⟩ := rdv_slice h
  unfold maxLen at h2
  by_cases h4 : 60 < l.length
  · go_enter Tryz.func72, Tryz.ntmps72
    go_wp2
    go_ret
    exact ⟨by simp [linesFault, h4, errV], rfl⟩
  · go_enter Tryz.func72, Tryz.ntmps72
    go_wp2
    go_loop [12] (fun i => ∃ k : Nat, k ≤ l.length ∧ i = .int .i64 k ∧ Hid (firstOf lineFault (l.drop k) = linesFault l)) (fun i => l.length - (intOf i).toNat)
    case atStart => exact ⟨0, Nat.zero_le _, rfl, by simp [Hid, linesFault, h4]⟩
    case round =>
      obtain ⟨k, hk, rfl, hf⟩ := hrel
      by_cases hlt : k < l.length
      · obtain ⟨x, hx⟩ : ∃ x, l[k]? = some x := ⟨l[k], by simp [hlt]⟩
        obtain ⟨b, off, rfl, _, _, hc, hxs⟩ := elems_str h3 hx
        have hd := Lib.hid (drop_eq hx)
        clear hx h3 h
        by_cases hz : lineFault x = 0
        · go_wp2_with (go_at_call 109; refine (one_any _ _ hxs).mono ?_; rintro e w' ⟨rfl, rfl⟩; rw [hz, errV_zero])
          go_round
          case rel => exact ⟨k + 1, by omega, by go_num, by have := hf.out; rw [hd.out, firstOf, if_pos hz] at this; exact this⟩
          case measure => simp [intOf]; omega
        · go_wp2_with (go_at_call 109; refine (one_any _ _ hxs).mono ?_; rintro e w' ⟨rfl, rfl⟩; rw [errV_pos hz])
          go_ret
          have E : errV (linesFault l) = errV (lineFault x) := by rw [← hf.out, hd.out, firstOf, if_neg hz]
          exact ⟨by rw [E, errV_pos hz]; rfl, rfl⟩
      · go_wp2
        go_ret
        exact ⟨by have := hf.out; rw [List.drop_of_length_le (by omega), firstOf] at this; rw [← this]; rfl, rfl⟩

theorem take_same {α : Type} {l m : List α} {k : Nat} {x : α} (h : l.take k = m.take k) (hx : l[k]? = some x) (hy : m[k]? = some x) : l.take (k + 1) = m.take (k + 1) := by
  rw [List.take_add_one, List.take_add_one, h, hx, hy]
theorem ne_of_get {α : Type} {l m : List α} {k : Nat} {x y : α} (hx : l[k]? = some x) (hy : m[k]? = some y) (h : x ≠ y) : l ≠ m := by
  rintro rfl
  rw [hx] at hy
  exact h (Option.some.inj hy)
theorem str_beq_false {x y : ByteArray} (h : x ≠ y) : (x.toList == y.toList) = false := by
  rw [ByteArray.toList_eq, ByteArray.toList_eq]
  refine beq_eq_false_iff_ne.2 (fun e => h ?_)
  have := Array.toList_inj.1 e
  cases x; cases y; simp_all

end Go.Proofs.YtmjpfoeaobdaeaaGreatDoor
namespace Go.Proofs.YtmjpfoeaobdaeaaGreatDoor
open Go.RowKit Go.Extern.Stop Go.Stop Go.Extern

abbrev errT : Value := .iface 194 (.agg #[.pointer (some ⟨9, 41, none⟩)])
abbrev vP (a : Addr) : Value := .agg #[.pointer (some ⟨9, 119, none⟩), .pointer (some a), .int .u64 150]
abbrev vE (a : Addr) : Value := .agg #[.pointer (some ⟨9, 64, none⟩), .pointer (some a), .int .u64 130]
abbrev vEa (a : Addr) : Value := .agg #[.pointer (some ⟨9, 64, none⟩), .pointer (some a), .int .u64 386]
abbrev tP : Value := .agg #[.pointer (some ⟨9, 119, none⟩)]
abbrev tE : Value := .agg #[.pointer (some ⟨9, 64, none⟩)]

theorem as_nil (t : Value) (w : World) :
    Calls Tryz.prog 70 #[.nilIface, t] w fun e w' => e = .returned (.bool false) ∧ w' = w := by
  go_enter Tryz.func70, Tryz.ntmps70
  go_wp2
  go_ret
  exact ⟨rfl, rfl⟩

theorem as_valueOfP (t : Addr) (w : World) : (ReflectliteValue.unpack (.iface 119 (.pointer (some t)))).run Tryz.prog w
    = .ok (vP ⟨w.heap.size, 0, none⟩) (w.alloc (.cells #[.pointer (some t)] 119)) := by kernel_rfl
theorem as_typeP (a : Addr) (w : World) : (ReflectliteValue.methodAny (ReflectliteValue.valueError "reflectlite.Value.Type" 0) (fun t _ _ _ => ReflectliteType.toType t) #[vP a]).run Tryz.prog w
    = .ok (.iface 194 tP) w := by kernel_rfl
theorem as_kindP (w : World) : ((ReflectliteType.abiMethod fun t => (fun a : Nat => Value.int IntKind.u8 (a : Int)) <$> Rtype.kind t) #[.pointer (some ⟨9, 119, none⟩)]).run Tryz.prog w = .ok (.int .u8 22) w := by kernel_rfl
theorem as_kindE (w : World) : ((ReflectliteType.abiMethod fun t => (fun a : Nat => Value.int IntKind.u8 (a : Int)) <$> Rtype.kind t) #[.pointer (some ⟨9, 64, none⟩)]).run Tryz.prog w = .ok (.int .u8 2) w := by kernel_rfl
theorem as_rlm (z : Sem Value) (f : TypeId → Addr → Nat → Nat → Sem Value) (v : Value) :
    ReflectliteValue.method z f #[v] = (do match ← ReflectliteValue.parts v with | none => z | some (t, a, fl) => f t a fl (fl % 32)) := rfl
theorem as_partsP (a : Addr) (w : World) : (ReflectliteValue.parts (vP a)).run Tryz.prog w = .ok (some (119, a, 150)) w := by kernel_rfl
theorem as_isNilP (a p : Addr) (W : World) (ha : W.cell? a = some (.pointer (some p))) :
    (ReflectliteValue.method (ReflectliteValue.valueError "reflectlite.Value.IsNil" 0) ReflectliteValue.isNil #[vP a]).run Tryz.prog W = .ok (.bool false) W := by
  rw [as_rlm]
  simp only [Sem.run_bind, as_partsP, Result.andThen]
  simp [ReflectliteValue.isNil, loadVar, isAgg, underlying, Tryz.underlying119, ha, Result.andThen]
theorem as_methodKind (h : Value) (w : World) : (Go.method 391 194 (.agg #[h]) "Kind").run Tryz.prog w = .ok (194, h) w := by kernel_rfl
theorem as_elemP (w : World) : (ReflectliteType.method ReflectliteType.elem #[tP]).run Tryz.prog w = .ok (.iface 194 tE) w := by kernel_rfl
theorem as_implE (w : World) : (ReflectliteType.relation "Implements" ReflectliteType.implements_ #[tE, errT]).run Tryz.prog w = .ok (.bool true) w := by kernel_rfl
theorem as_typeOfE (v : Value) (w : World) : (ReflectliteType.typeOf #[.iface 64 v]).run Tryz.prog w = .ok (.iface 194 tE) w := by kernel_rfl
theorem as_assignE (w : World) : (ReflectliteType.relation "AssignableTo" ReflectliteType.assignableTo #[tE, .iface 194 tE]).run Tryz.prog w = .ok (.bool true) w := by kernel_rfl
theorem as_valueOfE (k : Int) (w : World) : (ReflectliteValue.unpack (.iface 64 (.int .i64 k))).run Tryz.prog w
    = .ok (vE ⟨w.heap.size, 0, none⟩) (w.alloc (.cells #[.int .i64 k] 64)) := by kernel_rfl
theorem as_elemOfP (w : World) : (Rtype.elem? 119).run Tryz.prog w = .ok (some 64) w := by kernel_rfl
theorem as_mkE (p : Addr) (w : World) : (ReflectliteValue.mk 64 p ReflectliteValue.flagAddr).run Tryz.prog w = .ok (vEa p) w := by kernel_rfl
theorem as_elemVP (a p : Addr) (W : World) (ha : W.cell? a = some (.pointer (some p))) :
    (ReflectliteValue.method (ReflectliteValue.valueError "reflectlite.Value.Elem" 0) ReflectliteValue.elem #[vP a]).run Tryz.prog W = .ok (vEa p) W := by
  rw [as_rlm]
  simp only [Sem.run_bind, as_partsP, Result.andThen]
  simp [ReflectliteValue.elem, loadVar, isAgg, underlying, Tryz.underlying119, ha, Result.andThen, as_elemOfP, as_mkE]
theorem as_rls (v x : Value) : ReflectliteValue.set #[v, x] = (do
    let (some (dst, a, fl), some (src, b, _)) := (← ReflectliteValue.parts v, ← ReflectliteValue.parts x)
      | unsupported (.noEntry "extern/(internal/reflectlite.Value).Set.zeroValue")
    if fl / ReflectliteValue.flagAddr % 2 == 0 then unsupported (.noEntry "extern/(internal/reflectlite.Value).Set.unaddressable")
    let val ← loadVar src b
    if ← Rtype.directlyAssignable dst src then storeVar dst a val
    else if ← Rtype.implements dst src then
      if (← Rtype.kind src) == 20 then
        match val with
        | .nilIface => unsupported (.noEntry "extern/reflectlite: a nil value of one interface type handed on as a value of another")
        | _ => storeVar dst a val
      else storeVar dst a (.iface src val)
    else panicString ("reflectlite.Set: value of type " ++ (← Rtype.spelt src) ++ " is not assignable to type " ++ (← Rtype.spelt dst))
    pure (.tuple #[])) := rfl
theorem as_partsEa (a : Addr) (w : World) : (ReflectliteValue.parts (vEa a)).run Tryz.prog w = .ok (some (64, a, 386)) w := by kernel_rfl
theorem as_partsE (a : Addr) (w : World) : (ReflectliteValue.parts (vE a)).run Tryz.prog w = .ok (some (64, a, 130)) w := by kernel_rfl
theorem as_directE (w : World) : (Rtype.directlyAssignable 64 64).run Tryz.prog w = .ok true w := by kernel_rfl
theorem as_setE (ta b : Addr) (k : Int) (old : Value) (W : World) (hb : W.cell? b = some (.int .i64 k)) (ht : W.cell? ta = some old) (hf : W.frozen? ta = false) :
    (ReflectliteValue.set #[vEa ta, vE b]).run Tryz.prog W = .ok (.tuple #[]) (W.setCell ta (.int .i64 k)) := by
  rw [as_rls]
  simp only [Sem.run_bind, as_partsEa, as_partsE, Result.andThen]
  simp [ReflectliteValue.flagAddr, loadVar, isAgg, underlying, Tryz.underlying64, hb, Result.andThen, as_directE, storeVar, Value.cells, storeCells, Addr.add]
  rw [run_store Tryz.prog W ta _ _ (by rfl)]
  simp [ht, hf]
theorem as_methodElem (h : Value) (w : World) : (Go.method 391 194 (.agg #[h]) "Elem").run Tryz.prog w = .ok (204, .agg #[h]) w := by kernel_rfl
theorem as_methodImplements (h : Value) (w : World) : (Go.method 391 194 (.agg #[h]) "Implements").run Tryz.prog w = .ok (205, .agg #[h]) w := by kernel_rfl
theorem as_methodAssignableTo (h : Value) (w : World) : (Go.method 391 194 (.agg #[h]) "AssignableTo").run Tryz.prog w = .ok (202, .agg #[h]) w := by kernel_rfl
abbrev asW1 (w : World) (t : Addr) : World := w.alloc (.cells #[.pointer (some t)] 119)
abbrev asC (w : World) : Obj := .cells #[.pointer (some ⟨9, 119, none⟩), .pointer (some ⟨w.heap.size, 0, none⟩), .int .u64 150] 167
abbrev asW2 (w : World) (t : Addr) : World := (asW1 w t).alloc (asC w)
abbrev asW3 (w : World) (t : Addr) : World := (asW2 w t).alloc (asC w)
abbrev asW4 (w : World) (t : Addr) (k : Int) : World := (asW3 w t).alloc (.cells #[.int .i64 k] 64)

set_option maxRecDepth 100000 in
set_option maxHeartbeats 4000000 in
theorem as_hit (k : Int) (t : Addr) (old : Value) (w : World) (hg : w.cell? ⟨1, 0, none⟩ = some errT) (ht0 : w.cell? t = some old) (hf0 : w.frozen? t = false) :
    Calls Tryz.prog 70 #[.iface 64 (.int .i64 k), .iface 119 (.pointer (some t))] w fun ev w' => ev = .returned (.bool true) ∧ w' = (asW4 w t k).setCell t (.int .i64 k) := by
  have h6 := @run_callFunc_extern Tryz.prog 104 _ (fun args => ReflectliteValue.unpack (args.getD 0 (.tuple #[]))) Tryz.func104 (by kernel_rfl) (by kernel_rfl) (by kernel_rfl) (by kernel_rfl)
  have h7 := @run_callFunc_extern Tryz.prog 105 _ (ReflectliteValue.methodAny (ReflectliteValue.valueError "reflectlite.Value.Type" 0) (fun t _ _ _ => ReflectliteType.toType t)) Tryz.func105 (by kernel_rfl) (by kernel_rfl) (by kernel_rfl) (by kernel_rfl)
  have h8 := @run_callFunc_extern Tryz.prog 106 _ (ReflectliteValue.method (ReflectliteValue.valueError "reflectlite.Value.IsNil" 0) ReflectliteValue.isNil) Tryz.func106 (by kernel_rfl) (by kernel_rfl) (by kernel_rfl) (by kernel_rfl)
  have h27 := @run_callFunc_extern Tryz.prog 194 _ (ReflectliteType.abiMethod fun t => do pure (.int .u8 (← Rtype.kind t))) Tryz.func194 (by kernel_rfl) (by kernel_rfl) (by kernel_rfl) (by kernel_rfl)
  have h37 := @run_callFunc_extern Tryz.prog 204 _ (ReflectliteType.method ReflectliteType.elem) Tryz.func204 (by kernel_rfl) (by kernel_rfl) (by kernel_rfl) (by kernel_rfl)
  have h38 := @run_callFunc_extern Tryz.prog 205 _ (ReflectliteType.relation "Implements" ReflectliteType.implements_) Tryz.func205 (by kernel_rfl) (by kernel_rfl) (by kernel_rfl) (by kernel_rfl)
  have h10 := @run_callFunc_extern Tryz.prog 102 _ ReflectliteType.typeOf Tryz.func102 (by kernel_rfl) (by kernel_rfl) (by kernel_rfl) (by kernel_rfl)
  have h35 := @run_callFunc_extern Tryz.prog 202 _ (ReflectliteType.relation "AssignableTo" ReflectliteType.assignableTo) Tryz.func202 (by kernel_rfl) (by kernel_rfl) (by kernel_rfl) (by kernel_rfl)
  have h11 := @run_callFunc_extern Tryz.prog 129 _ (ReflectliteValue.method (ReflectliteValue.valueError "reflectlite.Value.Elem" 0) ReflectliteValue.elem) Tryz.func129 (by kernel_rfl) (by kernel_rfl) (by kernel_rfl) (by kernel_rfl)
  have h12 := @run_callFunc_extern Tryz.prog 130 _ ReflectliteValue.set Tryz.func130 (by kernel_rfl) (by kernel_rfl) (by kernel_rfl) (by kernel_rfl)
  have tO := as_typeOfE
  have mA := as_methodAssignableTo
  have a25 := as_assignE
  have v25 := as_valueOfE
  have f6 := as_valueOfP
  have f7 := as_typeP
  have mK := as_methodKind
  have mE := as_methodElem
  have mI := as_methodImplements
  have k27 := as_kindP
  have k25 := as_kindE
  have e27 := as_elemP
  have i25 := as_implE
  have n8 := as_isNilP ⟨w.heap.size, 0, none⟩ t (asW2 w t) (by simp)
  have hlt : 1 < w.heap.size := by
    rcases Nat.lt_or_ge 1 w.heap.size with h | h
    · exact h
    · simp [World.cell?, Array.getElem?_eq_none h] at hg
  have hg2 : (asW2 w t).cell? ⟨1, 0, none⟩ = some errT := by
    rw [World.cell?_alloc_lt _ _ ⟨1, 0, none⟩ (by first | (simp; done) | (simp; omega)), World.cell?_alloc_lt _ _ ⟨1, 0, none⟩ hlt]; exact hg
  have htl : t.block < w.heap.size := by
    rcases Nat.lt_or_ge t.block w.heap.size with h | h
    · exact h
    · simp [World.cell?, Array.getElem?_eq_none h] at ht0
  have el := as_elemVP ⟨w.heap.size, 0, none⟩ t (asW3 w t) (by rw [World.cell?_alloc_lt _ _ ⟨w.heap.size, 0, none⟩ (by simp; omega)]; simp)
  have st := as_setE t ⟨w.heap.size + 1 + 1 + 1, 0, none⟩ k old (asW4 w t k)
    (by rw [World.cell?_alloc_at _ _ _ _ (by simp)]; rfl)
    (by rw [World.cell?_alloc_lt _ _ t (by simp; omega), World.cell?_alloc_lt _ _ t (by simp; omega), World.cell?_alloc_lt _ _ t (by simp; omega), World.cell?_alloc_lt _ _ t htl]; exact ht0)
    (by rw [World.frozen?_alloc_old _ _ t (by simp; omega), World.frozen?_alloc_old _ _ t (by simp; omega), World.frozen?_alloc_old _ _ t (by simp; omega), World.frozen?_alloc_old _ _ t (Nat.ne_of_lt htl)]; exact hf0)
  go_enter Tryz.func70, Tryz.ntmps70
  go_wp2
  refine wp_loop_rounds 1 ?_
  rw [rounds_succ]
  go_wp2
  go_ret
  exact ⟨rfl, rfl⟩

end Go.Proofs.YtmjpfoeaobdaeaaGreatDoor
namespace Go.Proofs.YtmjpfoeaobdaeaaGreatDoor
open Go.ChangeShapes Go.WideShapes Go.ChangeAt Go.RowKit

theorem as_et : Tryz.prog.globalNamed "errors.errorType" = some 1 := by kernel_rfl
theorem as_rt : (Tryz.prog.cutTypes.find? (·.1 == "internal/reflectlite.rtype")).map (·.2) = some 194 := by kernel_rfl
theorem as_oneRow : ((List.range 291).filter fun t => Tryz.prog.rowNamed t [101, 114, 114, 111, 114]) = [41] := by kernel_rfl
theorem as_size : Tryz.prog.types.size = 291 := by kernel_rfl
abbrev listed : List (String × DataW Unit) := [("errors.errorType", Rows.laid_errors_errorType)]

noncomputable def laidWorld (os : Os) : World :=
  let w0 := World.holding Tryz.prog os ⟨#[], #[], []⟩
  { w0 with heap := w0.heap.modify 1 fun
      | .cells _ t frozen => .cells #[errT] t frozen
      | o => o }
end Go.Proofs.YtmjpfoeaobdaeaaGreatDoor
namespace Go.Proofs.YtmjpfoeaobdaeaaGreatDoor
open Go.ChangeShapes Go.WideShapes Go.ChangeAt Go.RowKit

abbrev listedTE : List (String × DataW Unit) := [("unicode/utf8.acceptRanges", Rows.laid_unicode_utf8_acceptRanges), ("errors.errorType", Rows.laid_errors_errorType), ("unicode/utf8.first", Rows.laid_unicode_utf8_first)]
abbrev listedT : List (String × DataW Unit) := [("unicode/utf8.acceptRanges", Rows.laid_unicode_utf8_acceptRanges), ("unicode/utf8.first", Rows.laid_unicode_utf8_first)]
theorem handle_of_laidTE {W : World} (h : laidMetH Tryz.prog listedTE W) : W.cell? ⟨1, 0, none⟩ = some errT := by
  have h' : laidMet Tryz.prog listedT W ∧ handlesMet Tryz.prog listed W := h
  obtain ⟨name, u, ty, e1, e2, e3, e4, e5⟩ := h'.2 _ (List.mem_singleton.2 rfl)
  have en : name = [101, 114, 114, 111, 114] := (Option.some.inj e1).symm
  subst en
  obtain rfl := Option.some.inj (as_rt.symm.trans e2)
  have hm : ty ∈ (List.range 291).filter fun t => Tryz.prog.rowNamed t [101, 114, 114, 111, 114] := List.mem_filter.2 ⟨List.mem_range.2 (by rw [← as_size]; exact e3), e4⟩
  rw [as_oneRow] at hm
  obtain rfl := List.mem_singleton.1 hm
  have hh : typeHandle Tryz.prog 41 = .pointer (some ⟨9, 41, none⟩) := by kernel_rfl
  rw [hh] at e5
  simpa using World.var?_cell as_et e5 0
theorem maxlen_of {W : World} (h : W.ShapedOpen Tryz.prog) : ∃ m, W.cell? ⟨0, 0, none⟩ = some (.int .i64 m) := Go.Proofs.cell_of_shapedOpen_int (zero := #[.int .i64 0]) (t := 3) h (of_decide_eq_true (by kernel_rfl)) (by kernel_rfl) rfl (by kernel_rfl) (by kernel_rfl) Tryz.underlying3

def litOf : DataW Unit → List Value
  | .lit (.int k n) => [.int k n]
  | _ => []
def partOf : DataW Unit → List Value
  | .agg es => es.flatMap litOf
  | d => litOf d
def tableOf : DataW Unit → List Value
  | .agg ds => ds.flatMap partOf
  | d => litOf d
def setTable (w : World) (g : Nat) (cs : List Value) : World :=
  { w with heap := w.heap.modify g fun
      | .cells _ t frozen => .cells cs.toArray t frozen
      | o => o }
noncomputable def laidWorldT (os : Os) : World := setTable (setTable (laidWorld os) 3 (tableOf Rows.laid_unicode_utf8_acceptRanges)) 2 (tableOf Rows.laid_unicode_utf8_first)
end Go.Proofs.YtmjpfoeaobdaeaaGreatDoor
namespace Go.Proofs.YtmjpfoeaobdaeaaGreatDoor
open Go.RowKit Go.Sort

theorem pow_at : Tryz.prog.globalNamed "internal/strconv.uint64pow10" = some 6 := by kernel_rfl
def IsErrV (ev : Value) : Prop := ev = .nilIface ∨ ∃ te pe, ev = .iface te pe
structure Globs (w : World) (m : Int) : Prop where
  ml : w.cell? ⟨0, 0, none⟩ = some (.int .i64 m)
  tab : Lib.TabIs Tryz.prog w "internal/strconv.uint64pow10" .u64 Lib.pow10Tab
  es : ∃ ev, w.cell? ⟨4, 0, none⟩ = some ev ∧ IsErrV ev
  er : ∃ ev, w.cell? ⟨5, 0, none⟩ = some ev ∧ IsErrV ev
theorem tab_keep {O : Nat → Prop} {w w' : World} (h : Lib.TabIs Tryz.prog w "internal/strconv.uint64pow10" .u64 Lib.pow10Tab) (hc : Chg O w w') (hO : ¬ O 6) : Lib.TabIs Tryz.prog w' "internal/strconv.uint64pow10" .u64 Lib.pow10Tab := by
  unfold Lib.TabIs World.var? at *
  rw [pow_at] at h ⊢
  simp only [Option.bind_some] at h ⊢
  have hlt : 6 < w.heap.size := by
    rcases Nat.lt_or_ge 6 w.heap.size with q | q
    · exact q
    · rw [Array.getElem?_eq_none q] at h; cases h
  rw [hc.block _ hlt hO]
  exact h
theorem Globs.keepO {O : Nat → Prop} {w w' : World} {m : Int} (h : Globs w m) (hc : Chg O w w') (hO : ∀ k, k < 9 → ¬ O k) : Globs w' m := by
  obtain ⟨h1, h2, ⟨e1, h3, h4⟩, ⟨e2, h5, h6⟩⟩ := h
  exact ⟨hc.cell h1 (hO _ (by decide)), tab_keep h2 hc (hO _ (by decide)), ⟨e1, hc.cell h3 (hO _ (by decide)), h4⟩, ⟨e2, hc.cell h5 (hO _ (by decide)), h6⟩⟩
theorem Globs.never {w w' : World} {m : Int} (h : Globs w m) (hc : Chg Never w w') : Globs w' m := h.keepO hc (fun _ _ q => q)
theorem chg_grow (w : World) (k : Nat) (os : Array Obj) : Chg Never w (grow (w.drewN k) os) := Chg.of_below (Lib.below_grow w.heap.size w (Nat.le_refl _) k os)
end Go.Proofs.YtmjpfoeaobdaeaaGreatDoor
namespace Go.Proofs.YtmjpfoeaobdaeaaGreatDoor
open Go.ChangeShapes Go.WideShapes Go.ChangeAt Go.RowKit

abbrev listedGB : List (String × DataW Unit) := [("math/bits.deBruijn32tab", Rows.laid_math_bits_deBruijn32tab), ("math/bits.deBruijn64tab", Rows.laid_math_bits_deBruijn64tab), ("internal/strconv.uint64pow10", Rows.laid_internal_strconv_uint64pow10), ("unicode/utf8.acceptRanges", Rows.laid_unicode_utf8_acceptRanges), ("strconv.ErrRange", Rows.laid_strconv_ErrRange), ("strconv.ErrSyntax", Rows.laid_strconv_ErrSyntax), ("unicode/utf8.first", Rows.laid_unicode_utf8_first)]
theorem tabIs_of_laid {P : Program} {W : World} {name : String} {k : IntKind} {zs : List Int} {g : Nat} {t e : TypeId} {n : Nat}
    (hg : P.globalNamed name = some g) (hty : (P.globals[g]?).map (·.type) = some t) (ht : P.underlying t = some (.array n e)) (he : P.underlying e = some (.int k)) (hce : P.cellsOf e = 1) (hct : P.cellsOf t = n) :
    ∀ (l : List (String × DataW Unit)) (ps : List MemPlace), DataW.LaidVars P W l ps → (∃ d, d = Lib.tabData k zs ∧ (name, d) ∈ l) → Lib.TabIs P W name k zs
  | [], _, _, ⟨_, _, h⟩ => by cases h
  | (n', d') :: r, ps, hl, ⟨d, hd, h⟩ => by
    obtain ⟨g', t', cs, fuel, p, q, hg', ht', hvar, htr, hr, -⟩ := hl
    rcases List.mem_cons.1 h with e1 | h
    · injection e1 with e1 e2
      subst e1; subst e2; subst hd
      obtain rfl := Option.some.inj (hg.symm.trans hg')
      obtain rfl := Option.some.inj (hty.symm.trans ht')
      unfold Lib.TabIs
      rw [hvar, ← Lib.cells_of_tab ht he hce hct htr]
    · exact tabIs_of_laid hg hty ht he hce hct r q hr ⟨d, hd, h⟩
theorem pow_data : (Rows.laid_internal_strconv_uint64pow10 : DataW Unit) = Lib.tabData .u64 Lib.pow10Tab := by
  unfold Rows.laid_internal_strconv_uint64pow10 Lib.tabData
  congr 1
theorem tab_of {W : World} {l : List (String × DataW Unit)} (h : laidMet Tryz.prog l W) (hm : ("internal/strconv.uint64pow10", Rows.laid_internal_strconv_uint64pow10) ∈ l) : Lib.TabIs Tryz.prog W "internal/strconv.uint64pow10" .u64 Lib.pow10Tab := by
  obtain ⟨ps, hl, -⟩ := h
  exact tabIs_of_laid pow_at (t := 240) (e := 220) (n := 20) (by kernel_rfl) Tryz.underlying240 Tryz.underlying220 (by kernel_rfl) (by kernel_rfl) l ps hl ⟨_, pow_data, hm⟩
def textOf : DataW Unit → ByteArray
  | .iface _ (.ptr (.agg [.lit (.string s)])) => ⟨s.toArray⟩
  | _ => ⟨#[]⟩
def withErrs (w : World) : World :=
  let n := w.heap.size
  let w1 := setTable (setTable w 5 [.iface 254 (.pointer (some ⟨n, 0, none⟩))]) 4 [.iface 254 (.pointer (some ⟨n + 1, 0, none⟩))]
  { w1 with heap := (w1.heap.push (.cells #[.string (textOf Rows.laid_strconv_ErrRange)] 256 (0, 0))).push (.cells #[.string (textOf Rows.laid_strconv_ErrSyntax)] 256 (0, 0)) }
noncomputable def laidWorldG (os : Os) : World := withErrs (setTable (setTable (setTable (laidWorldT os) 7 (tableOf Rows.laid_math_bits_deBruijn32tab)) 8 (tableOf Rows.laid_math_bits_deBruijn64tab)) 6 (tableOf Rows.laid_internal_strconv_uint64pow10))
theorem laidWorldGB_met (os : Os) (args : Array Value) : laidMetH Tryz.prog listedGB ((laidWorldG os).forCall (fun _ _ => 0) ⟨#[], args, []⟩).memory :=
  (laidMet_of_run' 8 (by kernel_rfl) (by kernel_rfl) : laidMet Tryz.prog listedGB _)
end Go.Proofs.YtmjpfoeaobdaeaaGreatDoor
namespace Go.Proofs.YtmjpfoeaobdaeaaGreatDoor
open Go.ChangeShapes Go.WideShapes Go.ChangeAt Go.RowKit

theorem trod_isIface {H : Type} {enc : TypeId × Value → H} {P : Program} {w : World} {base : Nat} {sp : Nat → Bool} {held : Bool} {fuel : Nat} {t : TypeId} {ms : Array (String × TypeId)} {cs : List Value} {name : String} {x : DataW H} {p : List MemPlace}
    (ht : P.underlying t = some (.interface ms)) (h : DataW.trod enc P w base sp held fuel t cs = some (.iface name x, p)) : ∃ u v, cs = [.iface u v] := by
  cases fuel with
  | zero => simp [DataW.trod] at h
  | succ fuel =>
    match cs with
    | [.iface u v] => exact ⟨u, v, rfl⟩
    | [.nilIface] => simp [DataW.trod, ht] at h
    | [] => simp [DataW.trod, ht] at h
    | _ :: _ :: _ => simp [DataW.trod, ht] at h
    | [.bool _] | [.int _ _] | [.string _] | [.slice _ _ _] | [.pointer _] | [.agg _] | [.tuple _] => simp [DataW.trod, ht] at h
    | [v] => cases v <;> simp_all [DataW.trod]
theorem var_cell {P : Program} {W : World} {name : String} {g : Nat} {v : Value} {cs : Array Value} (hg : P.globalNamed name = some g) (h : W.var? P name = some cs) (hc : cs.toList = [v]) : W.cell? ⟨g, 0, none⟩ = some v := by
  unfold World.var? at h
  rw [hg] at h
  obtain rfl : cs = #[v] := by cases cs; simp_all
  simp only [Option.bind_some] at h
  cases hh : W.heap[g]? with
  | none => rw [hh] at h; cases h
  | some o =>
    rw [hh] at h
    cases o <;> simp_all [World.cell?]
theorem iface_of_laid {P : Program} {W : World} {name : String} {g : Nat} {t : TypeId} {ms : Array (String × TypeId)} {u : String} {x : DataW Unit}
    (hg : P.globalNamed name = some g) (hty : (P.globals[g]?).map (·.type) = some t) (ht : P.underlying t = some (.interface ms)) :
    ∀ (l : List (String × DataW Unit)) (ps : List MemPlace), DataW.LaidVars P W l ps → (∃ d, d = .iface u x ∧ (name, d) ∈ l) → ∃ v, W.cell? ⟨g, 0, none⟩ = some v ∧ IsErrV v
  | [], _, _, ⟨_, _, h⟩ => by cases h
  | (n', d') :: r, ps, hl, ⟨d, hd, h⟩ => by
    obtain ⟨g', t', cs, fuel, p, q, hg', ht', hvar, htr, hr, -⟩ := hl
    rcases List.mem_cons.1 h with e1 | h
    · injection e1 with e1 e2
      subst e1; subst e2; subst hd
      obtain rfl := Option.some.inj (hg.symm.trans hg')
      obtain rfl := Option.some.inj (hty.symm.trans ht')
      obtain ⟨u, v, hc⟩ := trod_isIface ht htr
      exact ⟨_, var_cell hg hvar hc, .inr ⟨u, v, rfl⟩⟩
    · exact iface_of_laid hg hty ht r q hr ⟨d, hd, h⟩
theorem es_of {W : World} {l : List (String × DataW Unit)} (h : laidMet Tryz.prog l W) (hm : ("strconv.ErrSyntax", Rows.laid_strconv_ErrSyntax) ∈ l) : ∃ v, W.cell? ⟨4, 0, none⟩ = some v ∧ IsErrV v := by
  obtain ⟨ps, hl, -⟩ := h
  exact iface_of_laid (t := 41) (by kernel_rfl) (by kernel_rfl) Tryz.underlying41 l ps hl ⟨_, rfl, hm⟩
theorem er_of {W : World} {l : List (String × DataW Unit)} (h : laidMet Tryz.prog l W) (hm : ("strconv.ErrRange", Rows.laid_strconv_ErrRange) ∈ l) : ∃ v, W.cell? ⟨5, 0, none⟩ = some v ∧ IsErrV v := by
  obtain ⟨ps, hl, -⟩ := h
  exact iface_of_laid (t := 41) (by kernel_rfl) (by kernel_rfl) Tryz.underlying41 l ps hl ⟨_, rfl, hm⟩
theorem globs_of {W : World} {m : Int} (hm : W.cell? ⟨0, 0, none⟩ = some (.int .i64 m)) {l : List (String × DataW Unit)} (hL : laidMet Tryz.prog l W) (hl : ("internal/strconv.uint64pow10", Rows.laid_internal_strconv_uint64pow10) ∈ l)
    (h1 : ("strconv.ErrSyntax", Rows.laid_strconv_ErrSyntax) ∈ l) (h2 : ("strconv.ErrRange", Rows.laid_strconv_ErrRange) ∈ l) : Globs W m :=
  ⟨hm, tab_of hL hl, es_of hL h1, er_of hL h2⟩
end Go.Proofs.YtmjpfoeaobdaeaaGreatDoor
namespace Go.Proofs.YtmjpfoeaobdaeaaGreatDoor
open Go.ChangeShapes Go.WideShapes Go.ChangeAt Go.RowKit

abbrev listedGI : List (String × DataW Unit) := [("math/bits.deBruijn32tab", Rows.laid_math_bits_deBruijn32tab), ("math/bits.deBruijn64tab", Rows.laid_math_bits_deBruijn64tab), ("internal/strconv.uint64pow10", Rows.laid_internal_strconv_uint64pow10), ("unicode/utf8.acceptRanges", Rows.laid_unicode_utf8_acceptRanges), ("errors.errorType", Rows.laid_errors_errorType), ("strconv.ErrRange", Rows.laid_strconv_ErrRange), ("strconv.ErrSyntax", Rows.laid_strconv_ErrSyntax), ("unicode/utf8.first", Rows.laid_unicode_utf8_first)]
theorem laidWorldG_metD (os : Os) (args : Array Value) : laidMet Tryz.prog listedGB ((laidWorldG os).forCall (fun _ _ => 0) ⟨#[], args, []⟩).memory := laidWorldGB_met os args
theorem laidWorldGI_met (os : Os) (args : Array Value) : laidMetH Tryz.prog listedGI ((laidWorldG os).forCall (fun _ _ => 0) ⟨#[], args, []⟩).memory :=
  laidMetH_of_parts (laidWorldG_metD os args) (by kernel_rfl)
theorem parts_of_laidGI {W : World} (h : laidMetH Tryz.prog listedGI W) : laidMet Tryz.prog listedGB W ∧ handlesMet Tryz.prog listed W := h
def keepT (x : String × DataW Unit) : Bool := x.1 == "unicode/utf8.acceptRanges" || x.1 == "unicode/utf8.first"
theorem keepT_GB : listedGB.filter keepT = listedT := by
  unfold keepT
  simp [listedGB, listedT]
theorem handle_of_laidGI {W : World} (h : laidMetH Tryz.prog listedGI W) : W.cell? ⟨1, 0, none⟩ = some errT := by
  have h1 := laidMet.filter keepT (parts_of_laidGI h).1
  rw [keepT_GB] at h1
  exact handle_of_laidTE (show laidMet Tryz.prog listedT W ∧ handlesMet Tryz.prog listed W from ⟨h1, (parts_of_laidGI h).2⟩)
end Go.Proofs.YtmjpfoeaobdaeaaGreatDoor
namespace Go.Proofs.YtmjpfoeaobdaeaaGreatDoor
open Go.ChangeShapes Go.WideShapes Go.ChangeAt Go.RowKit

theorem var_lt {P : Program} {W : World} {name : String} {g : Nat} {cs : Array Value} (hg : P.globalNamed name = some g) (h : W.var? P name = some cs) : g < W.heap.size := by
  unfold World.var? at h
  rw [hg] at h
  simp only [Option.bind_some] at h
  rcases Nat.lt_or_ge g W.heap.size with q | q
  · exact q
  · rw [Array.getElem?_eq_none q] at h; cases h
theorem laid_lt {P : Program} {W : World} {name : String} {g : Nat} (hg : P.globalNamed name = some g) :
    ∀ (l : List (String × DataW Unit)) (ps : List MemPlace), DataW.LaidVars P W l ps → (∃ d, (name, d) ∈ l) → g < W.heap.size
  | [], _, _, ⟨_, h⟩ => by cases h
  | (n', d') :: r, ps, hl, ⟨d, h⟩ => by
    obtain ⟨g', t', cs, fuel, p, q, hg', ht', hvar, htr, hr, -⟩ := hl
    rcases List.mem_cons.1 h with e1 | h
    · injection e1 with e1 e2
      subst e1
      exact var_lt hg hvar
    · exact laid_lt hg r q hr ⟨d, h⟩
theorem size_of_laidGI {W : World} (h : laidMetH Tryz.prog listedGI W) : 9 ≤ W.heap.size := by
  obtain ⟨ps, hl, -⟩ := (parts_of_laidGI h).1
  exact laid_lt (g := 8) (by kernel_rfl) _ ps hl ⟨Rows.laid_math_bits_deBruijn64tab, .tail _ (.head _)⟩
end Go.Proofs.YtmjpfoeaobdaeaaGreatDoor
