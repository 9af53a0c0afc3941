/-
  A ROW OF A BLOCK's CELLS, as a function of the place; a row of numbers that make([]int, n) has made.
-/
import Derived.Test.YtcgjegjnodopoaaDoorOwn
namespace Go.Proofs.YtcgjegjnodopoaaDoor
open Go.RowKit

/-- the block B has so many cells of one kind: at each place what g says -/
def ValRow (e : TypeId) (B : Nat) (wr : World) (len : Nat) (g : Nat → Value) : Prop :=
  ∃ c : Array Value, wr.heap[B]? = some (.cells c e (0, 0)) ∧ c.size = len ∧ ∀ k, k < len → c[k]? = some (g k)
theorem ValRow.cell {e : TypeId} {B : Nat} {wr : World} {len : Nat} {g : Nat → Value} (h : ValRow e B wr len g) {k : Nat} (hk : k < len) : wr.cell? ⟨B, k, none⟩ = some (g k) := by
  obtain ⟨c, h1, h2, h3⟩ := h
  simp only [World.cell?, h1]
  exact h3 k hk
theorem ValRow.lt {e : TypeId} {B : Nat} {wr : World} {len : Nat} {g : Nat → Value} (h : ValRow e B wr len g) : B < wr.heap.size := by
  obtain ⟨c, h1, _⟩ := h
  exact (Array.getElem?_eq_some_iff.1 h1).1
theorem ValRow.free {e : TypeId} {B : Nat} {wr : World} {len : Nat} {g : Nat → Value} (h : ValRow e B wr len g) (k : Nat) : wr.frozen? ⟨B, k, none⟩ = false := by
  obtain ⟨c, h1, h2, h3⟩ := h
  simp [World.frozen?, h1]
theorem ValRow.keep {e : TypeId} {B : Nat} {wr w' : World} {len : Nat} {g : Nat → Value} {O : Nat → Prop} (h : ValRow e B wr len g) (hc : Chg O wr w') (hB : ¬ O B) : ValRow e B w' len g := by
  obtain ⟨c, h1, h2⟩ := h
  refine ⟨c, ?_, h2⟩
  rw [hc.block B (Array.getElem?_eq_some_iff.1 h1).1 hB]
  exact h1
theorem ValRow.set {e : TypeId} {B : Nat} {wr : World} {len : Nat} {f : Nat → Value} (h : ValRow e B wr len f) {k : Nat} (hk : k < len) (b : Value) :
    ValRow e B (wr.setCell ⟨B, k, none⟩ b) len (fun j => if j = k then b else f j) := by
  obtain ⟨c, h1, h2, h3⟩ := h
  refine ⟨c.setIfInBounds k b, ?_, by simpa using h2, ?_⟩
  · simp [World.setCell, Array.getElem?_modify, h1]
  · intro j hj
    show _ = some (if j = k then b else f j)
    rw [Array.getElem?_setIfInBounds]
    by_cases e : j = k
    · subst e; simp [h2, hj]
    · rw [if_neg (fun h => e h.symm), if_neg e]; exact h3 j hj
theorem ValRow.other {e : TypeId} {B : Nat} {wr : World} {len : Nat} {f : Nat → Value} (h : ValRow e B wr len f) {p : Addr} (hp : p.block ≠ B) (v : Value) : ValRow e B (wr.setCell p v) len f :=
  h.keep (O := fun k => k = p.block) ((Chg.refl (fun k => k = p.block) wr).setCell (p := p) (.inr rfl) v) (fun h => hp h.symm)
theorem ValRow.congr {e : TypeId} {B : Nat} {wr : World} {len : Nat} {f g : Nat → Value} (h : ValRow e B wr len f) (hg : ∀ k, k < len → g k = f k) : ValRow e B wr len g := by
  obtain ⟨c, h1, h2, h3⟩ := h
  exact ⟨c, h1, h2, fun k hk => by rw [hg k hk]; exact h3 k hk⟩
/-- what make([]T, n) has made, T of one cell -/
theorem valRow_made {e : TypeId} {z : Value} (hz : z.cells = #[z]) {w1 : World} {B len : Nat} (h : w1.ownsRow 0 e 1 (.slice (some ⟨B, 0, none⟩) len len) len (madeCells z.cells (len * 1)).toList) : ValRow e B w1 len fun _ => z := by
  obtain ⟨_, hx⟩ := h
  rcases hx with ⟨h, _⟩ | ⟨g, cap, cur, hv, _, hh, hn, hm, hcs, htake⟩
  · cases h
  · injection hv with hv1 _ hv3
    injection hv1 with hv1
    injection hv1 with hv1
    subst hv1 hv3
    refine ⟨cur, hh, by simpa using hcs, ?_⟩
    intro k hk
    have e : cur.toList[k]? = (cur.toList.take (len * 1))[k]? := by rw [List.getElem?_take, if_pos (by omega)]
    rw [← Array.getElem?_toList, e, htake]
    simp [madeCells, hz, hk, Nat.mod_one]
end Go.Proofs.YtcgjegjnodopoaaDoor
