/-
  THE DOCUMENT's WAY TO A SCRIPT, in plain Lean: how many lines can be kept at the most; it comes to the same script.
-/
import Derived.Test.YtlflhehlbnbhgaaDoorFar
namespace Go.Proofs.YtlflhehlbnbhgaaDoor

/-- how many lines can be kept at the most -/
def lcs : List ByteArray → List ByteArray → Nat
  | [], _ => 0
  | _ :: _, [] => 0
  | x :: a, y :: b => if x = y then max (max (lcs a (y :: b)) (lcs (x :: a) b)) (lcs a b + 1) else max (lcs a (y :: b)) (lcs (x :: a) b)
termination_by a b => a.length + b.length
theorem lcs_nil (b : List ByteArray) : lcs [] b = 0 := by rw [lcs]
theorem lcs_nil' (a : List ByteArray) : lcs a [] = 0 := by cases a <;> rw [lcs]
theorem lcs_cons (x y : ByteArray) (a b : List ByteArray) : lcs (x :: a) (y :: b) = if x = y then max (max (lcs a (y :: b)) (lcs (x :: a) b)) (lcs a b + 1) else max (lcs a (y :: b)) (lcs (x :: a) b) := by rw [lcs]
theorem far_lcs : ∀ (n : Nat) (a b : List ByteArray), a.length + b.length = n → far a b + 2 * lcs a b = a.length + b.length := by
  intro n
  induction n using Nat.strongRecOn with
  | ind n ih =>
    intro a b hn
    cases a with
    | nil => rw [far_nil, lcs_nil]; simp
    | cons x a =>
      cases b with
      | nil => rw [far_nil', lcs_nil']; simp
      | cons y b =>
        simp only [List.length_cons] at hn ⊢
        have h1 := ih _ (by simp only [List.length_cons]; omega) a (y :: b) rfl
        have h2 := ih _ (by simp only [List.length_cons]; omega) (x :: a) b rfl
        have h3 := ih _ (by omega) a b rfl
        simp only [List.length_cons] at h1 h2
        rw [far_cons, lcs_cons]
        by_cases e : x = y
        · rw [if_pos e, if_pos e]
          have k1 := far_unput y a b
          have k2 := far_untake x a b
          omega
        · rw [if_neg e, if_neg e]
          omega
theorem far_lcs' (a b : List ByteArray) : far a b + 2 * lcs a b = a.length + b.length := far_lcs _ a b rfl
theorem lcs_le (a b : List ByteArray) : lcs a b ≤ a.length ∧ lcs a b ≤ b.length := by
  have h := far_lcs' a b
  have h1 := far_ge a b
  have h2 := far_ge b a
  rw [far_symm b a] at h2
  omega
theorem lcs_same (x : ByteArray) (a b : List ByteArray) : lcs (x :: a) (x :: b) = lcs a b + 1 := by
  have h := far_lcs' (x :: a) (x :: b)
  have h2 := far_lcs' a b
  rw [far_same] at h
  simp only [List.length_cons] at h
  omega
theorem lcs_test (x y : ByteArray) (a b : List ByteArray) : (lcs a (y :: b) = lcs (x :: a) (y :: b)) ↔ far a (y :: b) + 1 = far (x :: a) (y :: b) := by
  have h := far_lcs' (x :: a) (y :: b)
  have h2 := far_lcs' a (y :: b)
  simp only [List.length_cons] at h h2
  omega

/-- by places -/
def lcsAt (a b : List ByteArray) (i k : Nat) : Nat := lcs (a.drop i) (b.drop k)
theorem drop_cons {α : Type} {l : List α} {k : Nat} {x : α} (h : l[k]? = some x) : l.drop k = x :: l.drop (k + 1) := by
  obtain ⟨h1, h2⟩ := List.getElem?_eq_some_iff.1 h
  rw [← h2]; exact List.drop_eq_getElem_cons h1
theorem lcsAt_step {a b : List ByteArray} {i k : Nat} {x y : ByteArray} (hx : a[i]? = some x) (hy : b[k]? = some y) :
    lcsAt a b i k = if x = y then max (max (lcsAt a b (i + 1) k) (lcsAt a b i (k + 1))) (lcsAt a b (i + 1) (k + 1) + 1) else max (lcsAt a b (i + 1) k) (lcsAt a b i (k + 1)) := by
  unfold lcsAt
  conv => lhs; rw [drop_cons hx, drop_cons hy, lcs_cons]
  rw [← drop_cons hx, ← drop_cons hy]
theorem lcsAt_left (a b : List ByteArray) (k : Nat) : lcsAt a b a.length k = 0 := by unfold lcsAt; rw [List.drop_length, lcs_nil]
theorem lcsAt_right (a b : List ByteArray) (i : Nat) : lcsAt a b i b.length = 0 := by unfold lcsAt; rw [List.drop_length, lcs_nil']
theorem lcsAt_le (a b : List ByteArray) (i k : Nat) : lcsAt a b i k ≤ a.length := by
  have := (lcs_le (a.drop i) (b.drop k)).1
  unfold lcsAt
  rw [List.length_drop] at this
  omega
end Go.Proofs.YtlflhehlbnbhgaaDoor
