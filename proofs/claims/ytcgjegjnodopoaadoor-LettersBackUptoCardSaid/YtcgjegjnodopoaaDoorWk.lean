/-
  GENERAL LAWS ON WORLDS AND DATA: which blocks a call may have changed ('Chg'), and what a row of cells reads as ('Dat'). No program in sight.
-/
import Derived.WalkKit
import Derived.Deep.Draws
namespace Go.Proofs.YtcgjegjnodopoaaDoor
open Go.RowKit

/-- From w to w' only blocks of O have changed, and new ones have come. -/
structure Chg (O : Nat → Prop) (w w' : World) : Prop where
  os : w'.os = w.os
  tape : w'.tape = w.tape
  output : w'.output = w.output
  size : w.heap.size ≤ w'.heap.size
  block : ∀ k, k < w.heap.size → ¬ O k → w'.heap[k]? = w.heap[k]?

/-- no block -/
def Never : Nat → Prop := fun _ => False
/-- the blocks from B on -/
def From (B : Nat) : Nat → Prop := fun k => B ≤ k
/-- the blocks below B -/
def Old (B : Nat) : Nat → Prop := fun k => k < B
/-- the block of a slice value -/
def OwnB (v : Value) : Nat → Prop := fun k => v.ownBlock = some k

theorem Chg.refl (O : Nat → Prop) (w : World) : Chg O w w := ⟨rfl, rfl, rfl, Nat.le_refl _, fun _ _ _ => rfl⟩
theorem Chg.trans {O : Nat → Prop} {a b c : World} (h : Chg O a b) (k : Chg O b c) : Chg O a c :=
  ⟨k.os.trans h.os, k.tape.trans h.tape, k.output.trans h.output, Nat.le_trans h.size k.size,
    fun i hi ho => (k.block i (Nat.lt_of_lt_of_le hi h.size) ho).trans (h.block i hi ho)⟩
theorem Chg.mono {O O' : Nat → Prop} {w w' : World} (h : Chg O w w') (hO : ∀ k, k < w.heap.size → O k → O' k) : Chg O' w w' :=
  ⟨h.os, h.tape, h.output, h.size, fun k hk hn => h.block k hk (fun ho => hn (hO k hk ho))⟩
/-- a second step may change what is new since the first world -/
theorem Chg.trans' {O O' : Nat → Prop} {a b c : World} (h : Chg O a b) (k : Chg O' b c) (hO : ∀ i, i < a.heap.size → O' i → O i) : Chg O a c :=
  ⟨k.os.trans h.os, k.tape.trans h.tape, k.output.trans h.output, Nat.le_trans h.size k.size,
    fun i hi ho => (k.block i (Nat.lt_of_lt_of_le hi h.size) (fun hx => ho (hO i hi hx))).trans (h.block i hi ho)⟩
theorem Chg.drew {O : Nat → Prop} {a w : World} (h : Chg O a w) : Chg O a w.drew := ⟨h.os, h.tape, h.output, h.size, h.block⟩
theorem Chg.drewN {O : Nat → Prop} {a w : World} (h : Chg O a w) (n : Nat) : Chg O a (w.drewN n) := ⟨h.os, h.tape, h.output, h.size, h.block⟩
theorem Chg.alloc {O : Nat → Prop} {a w : World} (h : Chg O a w) (o : Obj) : Chg O a (w.alloc o) :=
  ⟨h.os, h.tape, h.output, Nat.le_trans h.size (by simp), fun k hk hn => by rw [Below.heap_alloc _ _ _ (Nat.lt_of_lt_of_le hk h.size)]; exact h.block k hk hn⟩
theorem Chg.setCell {O : Nat → Prop} {a w : World} (h : Chg O a w) {p : Addr} (hp : a.heap.size ≤ p.block ∨ O p.block) (u : Value) : Chg O a (w.setCell p u) :=
  ⟨h.os, h.tape, h.output, by simpa [World.setCell] using h.size, fun k hk hn => by
    rw [Below.heap_setCell _ _ _ _ (by rintro rfl; rcases hp with hp | hp; · omega
                                       · exact hn hp)]
    exact h.block k hk hn⟩
theorem Chg.of_grown {w w' : World} {row : Option Nat} (h : w.grownBy w' row) : Chg (fun k => row = some k) w w' :=
  ⟨h.os, h.tape, h.output, h.size, fun k hk hn => h.block k hk (fun e => hn e.symm)⟩
theorem Chg.of_below {w w' : World} (h : Below w.heap.size w w') : Chg Never w w' :=
  ⟨h.os, h.tape, h.output, h.size, fun k hk _ => h.block k hk⟩
theorem Chg.never {w w' : World} (h : Chg Never w w') : Below w.heap.size w w' :=
  ⟨h.os, h.tape, h.output, h.size, fun k hk => h.block k hk (fun x => x)⟩
theorem Chg.cell {O : Nat → Prop} {w w' : World} (h : Chg O w w') {p : Addr} {v : Value} (hc : w.cell? p = some v) (hp : ¬ O p.block) : w'.cell? p = some v := by
  have hlt := World.block_lt_of_cell? w p hc
  rw [← hc]; exact World.cell?_of_block (h.block _ hlt hp)
theorem Chg.cellNever {w w' : World} (h : Chg Never w w') {p : Addr} {v : Value} (hc : w.cell? p = some v) : w'.cell? p = some v := h.cell hc (fun x => x)
theorem Chg.frozen {O : Nat → Prop} {w w' : World} (h : Chg O w w') {p : Addr} (hlt : p.block < w.heap.size) (hp : ¬ O p.block) : w'.frozen? p = w.frozen? p :=
  World.frozen?_of_block (h.block _ hlt hp)
end Go.Proofs.YtcgjegjnodopoaaDoor
