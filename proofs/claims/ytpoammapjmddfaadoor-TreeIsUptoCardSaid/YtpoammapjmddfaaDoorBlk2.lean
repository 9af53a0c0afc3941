/-
  A BOX OF TWO CELLS, and of three (Blk3: XTurn). No program in sight.
-/
import Derived.Test.YtpoammapjmddfaaDoorOwn
namespace Go.Proofs.YtpoammapjmddfaaDoor
open Go.RowKit

/-- block B holds two cells of its own -/
def Blk2 (w : World) (B : Nat) (t : TypeId) (x y : Value) : Prop := w.heap[B]? = some (.cells #[x, y] t (0, 0))
theorem Blk2.cell {w : World} {B : Nat} {t : TypeId} {x y : Value} (h : Blk2 w B t x y) : w.cell? ⟨B, 0, none⟩ = some x ∧ w.cell? ⟨B, 1, none⟩ = some y := by
  unfold Blk2 at h
  refine ⟨?_, ?_⟩ <;> (unfold World.cell?; rw [h]; rfl)
theorem Blk2.free {w : World} {B : Nat} {t : TypeId} {x y : Value} (h : Blk2 w B t x y) (j : Nat) : w.frozen? ⟨B, j, none⟩ = false := by
  unfold Blk2 at h
  unfold World.frozen?; rw [h]; simp
theorem Blk2.lt {w : World} {B : Nat} {t : TypeId} {x y : Value} (h : Blk2 w B t x y) : B < w.heap.size := (Array.getElem?_eq_some_iff.1 h).1
theorem Blk2.keep {w w' : World} {B : Nat} {t : TypeId} {x y : Value} {O : Nat → Prop} (h : Blk2 w B t x y) (hc : Chg O w w') (hB : ¬ O B) : Blk2 w' B t x y := by
  unfold Blk2 at *
  rw [hc.block B (Array.getElem?_eq_some_iff.1 h).1 hB]
  exact h
theorem Blk2.set1 {w : World} {B : Nat} {t : TypeId} {x y : Value} (h : Blk2 w B t x y) (u : Value) : Blk2 (w.setCell ⟨B, 1, none⟩ u) B t x u := by
  unfold Blk2 at *
  simp [World.setCell, Array.getElem?_modify, h]
theorem Blk2.new (w : World) (t : TypeId) (x y : Value) : Blk2 (w.alloc (.cells #[x, y] t)) w.heap.size t x y := heap_alloc_new _ _
end Go.Proofs.YtpoammapjmddfaaDoor
