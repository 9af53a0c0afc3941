/-
  PIECES OF A SCRIPT AS THE DOCUMENT FINDS THEM, in plain Lean: is a mark in a piece, told mark by mark.
-/
import Derived.Test.YtlflhehlbnbhgaaDoorSpecCut
namespace Go.Proofs.YtlflhehlbnbhgaaDoor

/-- is mark k in a piece, as far as j marks tell? -/
def inTo (s : List Mark) (n : Int) (k j : Nat) : Bool := (s[k]?.any isChange) || (List.range j).any fun i => (s[i]?.any isChange) && decide ((k : Int) ≤ i + n) && decide ((i : Int) ≤ k + n)
theorem inTo_zero {s : List Mark} {n : Int} {k : Nat} {x : Mark} (hx : s[k]? = some x) : inTo s n k 0 = isChange x := by
  unfold inTo; simp [hx]
theorem inTo_step {s : List Mark} {n : Int} {k j : Nat} {y : Mark} (hy : s[j]? = some y) : inTo s n k (j + 1) = (inTo s n k j || (isChange y && decide ((k : Int) ≤ j + n) && decide ((j : Int) ≤ k + n))) := by
  unfold inTo
  rw [List.range_succ, List.any_append]
  simp [hy, Bool.or_assoc]
theorem inTo_in {s : List Mark} {n : Int} {k j : Nat} {y : Mark} (hy : s[j]? = some y) (h1 : y.sign ≠ 32) (h2 : (j : Int) - k ≤ n) (h3 : (k : Int) - j ≤ n) : inTo s n k (j + 1) = true := by
  rw [inTo_step hy]
  have e1 : isChange y = true := by simp [isChange, h1]
  rw [e1, decide_eq_true (show (k : Int) ≤ j + n by omega), decide_eq_true (show (j : Int) ≤ k + n by omega)]
  simp
theorem inTo_out {s : List Mark} {n : Int} {k j : Nat} {y : Mark} (hy : s[j]? = some y) (h : y.sign = 32 ∨ ¬ (j : Int) - k ≤ n ∨ ¬ (k : Int) - j ≤ n) : inTo s n k (j + 1) = inTo s n k j := by
  rw [inTo_step hy]
  have : (isChange y && decide ((k : Int) ≤ j + n) && decide ((j : Int) ≤ k + n)) = false := by
    rcases h with h | h | h
    · have e1 : isChange y = false := by simp [isChange, h]
      rw [e1]; rfl
    · rw [decide_eq_false (show ¬ (j : Int) ≤ k + n by omega)]; simp
    · rw [decide_eq_false (show ¬ (k : Int) ≤ j + n by omega)]; simp
  rw [this, Bool.or_false]
theorem inTo_end {s : List Mark} {n : Int} {k : Nat} (hn : 0 ≤ n) (hk : k < s.length) : inTo s n k s.length = inAt s n k := by
  unfold inTo inAt
  cases hc : s[k]?.any isChange with
  | false => rfl
  | true =>
    rw [Bool.true_or]
    symm
    rw [List.any_eq_true]
    exact ⟨k, List.mem_range.2 hk, by rw [hc, decide_eq_true (show (k : Int) ≤ k + n by omega)]; rfl⟩
end Go.Proofs.YtlflhehlbnbhgaaDoor
