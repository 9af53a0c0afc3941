/-
  COLUMNS LEFT AS BITS of a small number.
-/
import Derived.Test.YtcgjegjnodopoaaDoorSpecMatch
namespace Go.Proofs.YtcgjegjnodopoaaDoor
def bitsOf (s : Nat) : Nat → Bool := fun k => s.testBit k
theorem bit_del_small : ∀ s, s < 256 → ∀ k, k < 8 → s.testBit k = true → ∀ j, j < 8 → (s - 2 ^ k).testBit j = (s.testBit j && j != k) := by decide +kernel
theorem low_small : ∀ s, s < 256 → 0 < s → cntL (bitsOf (s &&& (s - 1))) 8 + 1 = cntL (bitsOf s) 8 ∧ s &&& (s - 1) < s := by decide +kernel
theorem bits_le {s k : Nat} (h : s.testBit k = true) : 2 ^ k ≤ s := Nat.ge_two_pow_of_testBit h
theorem bits_del {s k : Nat} (hs : s < 256) (hk : k < 8) (h : bitsOf s k = true) : bitsOf (s - 2 ^ k) = delC (bitsOf s) k := by
  funext j
  unfold bitsOf delC
  by_cases hj : j < 8
  · exact bit_del_small s hs k hk h j hj
  · show (s - 2 ^ k).testBit j = (s.testBit j && j != k)
    have h1 : s < 2 ^ j := Nat.lt_of_lt_of_le hs (Nat.pow_le_pow_right (n := 2) (by decide) (show 8 ≤ j by omega))
    rw [Nat.testBit_lt_two_pow h1, Nat.testBit_lt_two_pow (Nat.lt_of_le_of_lt (Nat.sub_le _ _) h1)]; rfl
theorem bits_full (n k : Nat) : bitsOf (2 ^ n - 1) k = decide (k < n) := Nat.testBit_two_pow_sub_one n k
theorem cnt_full (n : Nat) : ∀ (k : Nat), k ≤ n → cntL (bitsOf (2 ^ n - 1)) k = k
  | 0, _ => rfl
  | k + 1, h => by rw [cntL, cnt_full n k (by omega), if_pos (by rw [bits_full]; simp; omega)]
theorem cnt_beyond {s n : Nat} (h : s < 2 ^ n) : ∀ (k : Nat), n ≤ k → cntL (bitsOf s) k = cntL (bitsOf s) n
  | 0, q => by rw [show n = 0 by omega]
  | k + 1, q => by
    by_cases e : n = k + 1
    · rw [e]
    · rw [cntL, cnt_beyond h k (by omega), if_neg]; · rfl
      unfold bitsOf
      rw [Nat.testBit_lt_two_pow (Nat.lt_of_lt_of_le h (Nat.pow_le_pow_right (n := 2) (by decide) (show n ≤ k by omega)))]
      decide
theorem cnt_zero (n : Nat) : cntL (bitsOf 0) n = 0 := by
  induction n with
  | zero => rfl
  | succ n ih => rw [cntL, ih, if_neg (by unfold bitsOf; simp)]
theorem cnt_pos {s : Nat} (h : s < 256) (h0 : 0 < s) : 0 < cntL (bitsOf s) 8 := by have := (low_small s h h0).1; omega
theorem bits_end {s n k : Nat} (h : s < 2 ^ n) (hk : bitsOf s k = true) : k < n := by
  have := bits_le hk
  exact Nat.not_le.1 fun q => by
    have := Nat.pow_le_pow_right (n := 2) (by decide) q
    omega
end Go.Proofs.YtcgjegjnodopoaaDoor
