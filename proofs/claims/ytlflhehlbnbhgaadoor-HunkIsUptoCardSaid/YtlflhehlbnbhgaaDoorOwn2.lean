/-
  MORE ON SLICES THAT append HAS BUILT.
-/
import Derived.Test.YtlflhehlbnbhgaaDoorOwn
namespace Go.Proofs.YtlflhehlbnbhgaaDoor
open Go.RowKit

theorem own_out {α : Type} [Dat α] {e : TypeId} {w : World} {O : Nat → Prop} {v : Value} {l : List α} (h : Own e w O v l) : ∀ k, v.ownBlock = some k → ¬ O k := by
  obtain ⟨_, _, q, _⟩ := h
  exact q
end Go.Proofs.YtlflhehlbnbhgaaDoor
