/-
  PARTS: WHAT THE DOCUMENT'S WAY BETWEEN TWO TREES NEEDS, in plain Lean: places and lookups, the merged list's length, what Make answers of valid lines.
-/
import Derived.Test.YtjiaidchcldocaaGreatDoorPg3
import Derived.Test.YtjiaidchcldocaaGreatDoorPg14
import Derived.Test.YtjiaidchcldocaaGreatDoorPg11
set_option linter.unusedVariables false
set_option linter.unusedSimpArgs false
namespace Go.Proofs.YtjiaidchcldocaaGreatDoor

theorem fileFault_lines {f : File} (h : fileFault f = 0) : linesFault f.lines = 0 := by
  unfold fileFault at h
  by_cases e : pathFault f.path = 0
  · rwa [if_pos e] at h
  · rw [if_neg e] at h; exact absurd h e
theorem checked_zero {x y : List ByteArray} (h : linesFault x = 0) (g : linesFault y = 0) : checkedFault x y = 0 := by unfold checkedFault; rw [if_pos h]; exact g
/-- of valid lines Make tells no fault -/
theorem make_valid {x y : List ByteArray} {n : Int} (h : linesFault x = 0) (g : linesFault y = 0) (n0 : 0 ≤ n) (n1 : n ≤ 1000) : makeFault x y n = 0 ∧ makeR x y n = cutOf (script x y) n := by
  have hc := checked_zero h g
  have hs := script_valid hc
  have e1 : (oldOf (script x y)).length = oldN (script x y) := rfl
  have e2 : (newOf (script x y)).length = newN (script x y) := rfl
  rw [script_old] at e1
  rw [script_new] at e2
  have l1 := linesFault_len h
  have l2 := linesFault_len g
  have hcut : cutFault (script x y) n = 0 := by
    unfold cutFault
    rw [if_neg (by rw [hs]; decide), if_neg (by omega), if_neg (by omega)]
  exact ⟨by unfold makeFault; rw [if_neg (by rw [hc]; decide)]; exact hcut, by unfold makeR cutR; rw [if_pos hc, if_pos hcut]⟩
/-! ### what lies between, step by step -/
theorem diffL_take {n : Int} {x : File} {a b : List File} (h : b = [] ∨ ∃ y r, b = y :: r ∧ less x.path y.path = true) : diffL n (x :: a) b = ⟨3, x.path, wholeR x.lines 45⟩ :: diffL n a b := by
  rcases h with rfl | ⟨y, r, rfl, h⟩
  · rw [diffL]
  · rw [diffL, if_pos h]
theorem diffL_put {n : Int} {y : File} {a b : List File} (h : a = [] ∨ ∃ x r, a = x :: r ∧ ¬ less x.path y.path = true ∧ less y.path x.path = true) : diffL n a (y :: b) = ⟨2, y.path, wholeR y.lines 43⟩ :: diffL n a b := by
  rcases h with rfl | ⟨x, r, rfl, h, g⟩
  · rw [diffL]
  · rw [diffL, if_neg h, if_pos g]
theorem diffL_both {n : Int} {x y : File} {a b : List File} (h : ¬ less x.path y.path = true) (g : ¬ less y.path x.path = true) : diffL n (x :: a) (y :: b) = chg n x.path (some x.lines) (some y.lines) ++ diffL n a b := by
  rw [diffL, if_neg h, if_neg g]
theorem diffL_nil (n : Int) : diffL n [] [] = [] := by rw [diffL]
theorem chg_none {n : Int} {p : ByteArray} {x y : List ByteArray} (h : cutOf (script x y) n = []) : chg n p (some x) (some y) = [] := if_pos h
theorem chg_some {n : Int} {p : ByteArray} {x y : List ByteArray} (h : cutOf (script x y) n ≠ []) : chg n p (some x) (some y) = [⟨1, p, cutOf (script x y) n⟩] := if_neg h
end Go.Proofs.YtjiaidchcldocaaGreatDoor
