/-
  PARTS: HOW ARGUMENTS READ: files, changes, and a struct that is an argument by itself.; WHICH IS WHICH, in plain Lean: what the program chooses is what the document chooses, and none is cheaper. Rows of costs; `left`: which columns are left.; COLUMNS LEFT AS BITS of a small number.; THE LEAST COSTS BY SETS OF COLUMNS, in plain Lean: bounds; how a set's is come by.; TWO SERIES, WHICH IS WHICH, in plain Lean: the costs, what is told of a choice.; A MAP FROM NUMBERS TO NUMBERS that the call has made: what it holds, as a function.; THE WALKS of match.apart, alone, and of the document's differ.
-/
import Derived.Test.YtjiaidchcldocaaGreatDoorPg1
import Derived.Test.YtjiaidchcldocaaGreatDoorPg2
import Derived.Test.YtjiaidchcldocaaGreatDoorPg3
import Derived.Test.YtjiaidchcldocaaGreatDoorPg4
import Derived.Test.YtjiaidchcldocaaGreatDoorPg5
import Derived.Test.YtjiaidchcldocaaGreatDoorPg6
import Derived.Test.YtjiaidchcldocaaGreatDoorPg7
import Derived.Test.YtjiaidchcldocaaGreatDoorPg8
import Derived.Test.YtjiaidchcldocaaGreatDoorPg9
import Derived.Test.YtjiaidchcldocaaGreatDoorPg10
import Derived.Test.YtjiaidchcldocaaGreatDoorPg11
import Derived.Test.YtjiaidchcldocaaGreatDoorPg12
import Derived.Test.YtjiaidchcldocaaGreatDoorPg13
import Derived.Test.YtjiaidchcldocaaGreatDoorPg14
import Derived.Test.YtjiaidchcldocaaGreatDoorPg15
import Derived.Test.YtjiaidchcldocaaGreatDoorPg16
import Derived.Test.YtjiaidchcldocaaGreatDoorPg17
import Derived.Test.YtjiaidchcldocaaGreatDoorPg18
import Derived.Test.YtjiaidchcldocaaGreatDoorPg19
import Derived.Test.YtjiaidchcldocaaGreatDoorPg20
import Derived.Test.YtjiaidchcldocaaGreatDoorPg21
import Derived.Test.YtjiaidchcldocaaGreatDoorPg22
import Derived.Test.YtjiaidchcldocaaGreatDoorPg23
import Derived.Test.YtjiaidchcldocaaGreatDoorPg24
import Derived.Test.YtjiaidchcldocaaGreatDoorPg25
import Derived.Test.YtjiaidchcldocaaGreatDoorPg26
import Derived.Test.YtjiaidchcldocaaGreatDoorPg27
import Derived.Test.YtjiaidchcldocaaGreatDoorPg28
import Derived.Test.YtjiaidchcldocaaGreatDoorPg29
import Derived.Test.YtjiaidchcldocaaGreatDoorPg30
import Derived.Test.YtjiaidchcldocaaGreatDoorPg31
import Derived.Test.YtjiaidchcldocaaGreatDoorPg32
import Derived.Test.YtjiaidchcldocaaGreatDoorPg33
import Derived.Test.YtjiaidchcldocaaGreatDoorPg34
import Derived.Test.YtjiaidchcldocaaGreatDoorPg35
import Derived.Test.YtjiaidchcldocaaGreatDoorPg36
import Derived.Test.YtjiaidchcldocaaGreatDoorPg37
import Derived.Test.YtjiaidchcldocaaGreatDoorPg38
import Derived.ChangeSame
import Init
import Derived.Maps.OwnOps
import Derived.Maps.Views
import Derived.Deep.QuietTactic
import Derived.BigQuiet
set_option linter.unusedVariables false
set_option linter.unusedSimpArgs false
namespace Go.Proofs.YtjiaidchcldocaaGreatDoor
open Go.ChangeShapes Go.WideShapes Go.ChangeAt Go.RowKit

theorem opens_trees : Opens Tryz.prog 67 (List (List File)) := opens_slice Tryz.underlying67 (by kernel_rfl) opens_files
end Go.Proofs.YtjiaidchcldocaaGreatDoor
namespace Go.Proofs.YtjiaidchcldocaaGreatDoor

def delC (left : Nat → Bool) (k : Nat) : Nat → Bool := fun j => left j && j != k
/-- the least of what is left below k; -1 for none -/
def minGo (f : Nat → Int) (left : Nat → Bool) : Nat → Int
  | 0 => -1
  | k + 1 => if left k = true ∧ (minGo f left k < 0 ∨ f k < minGo f left k) then f k else minGo f left k
def outGo (f : Nat → Int) (g : Nat → List Int) (left : Nat → Bool) : Nat → List Int
  | 0 => []
  | k + 1 => if left k = true ∧ (minGo f left k < 0 ∨ f k < minGo f left k) then (k : Int) :: g k else outGo f g left k
/-- the least cost of rows of the columns left -/
def bestS : List (List Int) → (Nat → Bool) → Int
  | [], _ => 0
  | row :: rest, left => minGo (fun k => row.getD k 0 + bestS rest (delC left k)) left row.length
/-- what the program chooses -/
def chooseS : List (List Int) → (Nat → Bool) → List Int
  | [], _ => []
  | row :: rest, left => match (List.range row.length).find? (fun k => left k && row.getD k 0 + bestS rest (delC left k) == bestS (row :: rest) left) with
    | none => chooseS rest left
    | some k => (k : Int) :: chooseS rest (delC left k)
/-- what the document chooses -/
def refOut : List (List Int) → (Nat → Bool) → List Int
  | [], _ => []
  | row :: rest, left => outGo (fun k => row.getD k 0 + bestS rest (delC left k)) (fun k => refOut rest (delC left k)) left row.length
/-- how many are left below n -/
def cntL (left : Nat → Bool) : Nat → Nat
  | 0 => 0
  | n + 1 => cntL left n + (if left n = true then 1 else 0)

theorem cnt_del_out (left : Nat → Bool) {k : Nat} : ∀ (n : Nat), n ≤ k → cntL (delC left k) n = cntL left n
  | 0, _ => rfl
  | n + 1, h => by
    rw [cntL, cntL, cnt_del_out left n (by omega)]
    have : delC left k n = left n := by unfold delC; rw [show (n != k) = true by simp; omega, Bool.and_true]
    rw [this]
theorem cnt_del (left : Nat → Bool) {k : Nat} (hk : left k = true) : ∀ (n : Nat), k < n → cntL (delC left k) n + 1 = cntL left n
  | 0, h => absurd h (by omega)
  | n + 1, h => by
    rw [cntL, cntL]
    by_cases e : k = n
    · subst e
      rw [cnt_del_out left k (Nat.le_refl _), if_pos hk, if_neg (by unfold delC; simp)]
    · have : delC left k n = left n := by unfold delC; rw [show (n != k) = true by simp; omega, Bool.and_true]
      rw [this, ← cnt_del left hk n (by omega)]
      omega
theorem cnt_some {left : Nat → Bool} : ∀ {n : Nat}, 0 < cntL left n → ∃ j, j < n ∧ left j = true
  | 0, h => absurd h (by simp [cntL])
  | n + 1, h => by
    rw [cntL] at h
    by_cases e : left n = true
    · exact ⟨n, by omega, e⟩
    · rw [if_neg e] at h
      obtain ⟨j, q, r⟩ := cnt_some (n := n) (by omega)
      exact ⟨j, by omega, r⟩
theorem del_left {left : Nat → Bool} {k j : Nat} (h : delC left k j = true) : left j = true ∧ j ≠ k := by
  unfold delC at h
  simpa using h

theorem min_none {f : Nat → Int} {left : Nat → Bool} : ∀ {k : Nat}, (∀ j, j < k → left j = false) → minGo f left k = -1
  | 0, _ => rfl
  | k + 1, h => by
    rw [minGo, if_neg (by rw [h k (by omega)]; simp), min_none fun j q => h j (by omega)]
/-- the least is one of them, the first such; the choice is its -/
theorem min_first {f : Nat → Int} {left : Nat → Bool} (g : Nat → List Int) : ∀ {k : Nat}, (∀ j, j < k → left j = true → 0 ≤ f j) → (∃ j, j < k ∧ left j = true) →
    ∃ j, j < k ∧ left j = true ∧ minGo f left k = f j ∧ (∀ i, i < k → left i = true → f j ≤ f i) ∧ (∀ i, i < j → left i = true → f j < f i) ∧ outGo f g left k = (j : Int) :: g j
  | 0, _, h => by obtain ⟨j, q, _⟩ := h; omega
  | k + 1, hp, h => by
    by_cases hex : ∃ j, j < k ∧ left j = true
    · obtain ⟨j, q1, q2, q3, q4, q5, q6⟩ := min_first g (fun i q => hp i (by omega)) hex
      have hj := hp j (by omega) q2
      by_cases ht : left k = true ∧ f k < f j
      · refine ⟨k, by omega, ht.1, ?_, fun i qi li => ?_, fun i qi li => ?_, ?_⟩
        · rw [minGo, if_pos ⟨ht.1, .inr (by rw [q3]; exact ht.2)⟩]
        · by_cases e : i = k
          · subst e; exact Int.le_refl _
          · have := q4 i (by omega) li
            have := ht.2
            omega
        · have := q4 i qi li
          have := ht.2
          omega
        · rw [outGo, if_pos ⟨ht.1, .inr (by rw [q3]; exact ht.2)⟩]
      · have hn : ¬ (left k = true ∧ (minGo f left k < 0 ∨ f k < minGo f left k)) := by
          rintro ⟨a, b⟩
          rw [q3] at b
          rcases b with b | b
          · omega
          · exact ht ⟨a, b⟩
        refine ⟨j, by omega, q2, by rw [minGo, if_neg hn, q3], fun i qi li => ?_, q5, by rw [outGo, if_neg hn, q6]⟩
        by_cases e : i = k
        · subst e
          exact Int.not_lt.1 fun l => ht ⟨li, l⟩
        · exact q4 i (by omega) li
    · have hnone : ∀ j, j < k → left j = false := fun j q => by
        cases e : left j with
        | false => rfl
        | true => exact absurd ⟨j, q, e⟩ hex
      have hk : left k = true := by
        obtain ⟨j, q, l⟩ := h
        by_cases e : j = k
        · rw [← e]; exact l
        · rw [hnone j (by omega)] at l; cases l
      have hm : left k = true ∧ (minGo f left k < 0 ∨ f k < minGo f left k) := ⟨hk, .inl (by rw [min_none hnone]; decide)⟩
      refine ⟨k, by omega, hk, by rw [minGo, if_pos hm], fun i qi li => ?_, fun i qi li => ?_, by rw [outGo, if_pos hm]⟩
      · by_cases e : i = k
        · subst e; exact Int.le_refl _
        · rw [hnone i (by omega)] at li; cases li
      · rw [hnone i qi] at li; cases li

theorem sq_tail {n : Nat} {row : List Int} {rest : List (List Int)} (h : SqOk n (row :: rest)) : SqOk n rest := fun r hr => h r (List.mem_cons_of_mem _ hr)
theorem sq_at {n : Nat} {row : List Int} {rest : List (List Int)} (h : SqOk n (row :: rest)) (k : Nat) : 0 ≤ row.getD k 0 := by
  rw [List.getD_eq_getElem?_getD]
  cases e : row[k]? with
  | none => exact Int.le_refl _
  | some c => exact (h row (List.mem_cons_self ..)).2 c (List.mem_of_getElem? e)
theorem best_pos {n : Nat} : ∀ {rows : List (List Int)} {left : Nat → Bool}, SqOk n rows → rows.length ≤ cntL left n → 0 ≤ bestS rows left
  | [], _, _, _ => Int.le_refl _
  | row :: rest, left, h, hc => by
    have hl : row.length = n := (h row (List.mem_cons_self ..)).1
    simp only [List.length_cons] at hc
    have hp : ∀ j, j < row.length → left j = true → 0 ≤ row.getD j 0 + bestS rest (delC left j) := fun j q l => by
      have := sq_at h j
      have := best_pos (rows := rest) (left := delC left j) (sq_tail h) (by have := cnt_del left l n (by omega); omega)
      omega
    obtain ⟨j, q1, q2, q3, _⟩ := min_first (fun _ => []) hp (by rw [hl]; exact cnt_some (by omega))
    rw [bestS, q3]
    exact hp j q1 q2
/-- the step: the first column that is as cheap as can be -/
theorem best_step {n : Nat} {row : List Int} {rest : List (List Int)} {left : Nat → Bool} (h : SqOk n (row :: rest)) (hc : rest.length + 1 ≤ cntL left n) :
    ∃ j, j < n ∧ left j = true ∧ bestS (row :: rest) left = row.getD j 0 + bestS rest (delC left j) ∧ rest.length ≤ cntL (delC left j) n
      ∧ (∀ i, i < n → left i = true → bestS (row :: rest) left ≤ row.getD i 0 + bestS rest (delC left i))
      ∧ chooseS (row :: rest) left = (j : Int) :: chooseS rest (delC left j) ∧ refOut (row :: rest) left = (j : Int) :: refOut rest (delC left j) := by
  have hl : row.length = n := (h row (List.mem_cons_self ..)).1
  have hp : ∀ j, j < row.length → left j = true → 0 ≤ row.getD j 0 + bestS rest (delC left j) := fun j q l => by
    have := sq_at h j
    have := best_pos (rows := rest) (left := delC left j) (sq_tail h) (by have := cnt_del left l n (by omega); omega)
    omega
  obtain ⟨j, q1, q2, q3, q4, q5, q6⟩ := min_first (fun k => refOut rest (delC left k)) hp (by rw [hl]; exact cnt_some (by omega))
  have e : bestS (row :: rest) left = row.getD j 0 + bestS rest (delC left j) := by rw [bestS, q3]
  refine ⟨j, by omega, q2, e, by have := cnt_del left q2 n (by omega); omega, fun i qi li => by rw [e]; exact q4 i (by omega) li, ?_, by rw [refOut, q6]⟩
  have hf : (List.range row.length).find? (fun k => left k && row.getD k 0 + bestS rest (delC left k) == bestS (row :: rest) left) = some j := by
    rw [List.find?_range_eq_some]
    refine ⟨by rw [q2, e]; simp, List.mem_range.2 q1, fun i qi => ?_⟩
    cases li : left i with
    | false => rfl
    | true =>
      have := q5 i qi li
      rw [e]
      simp only [Bool.true_and, Bool.not_eq_true', beq_eq_false_iff_ne, ne_eq]
      omega
  rw [chooseS, hf]
theorem choose_len {n : Nat} : ∀ {rows : List (List Int)} {left : Nat → Bool}, SqOk n rows → rows.length ≤ cntL left n → (chooseS rows left).length = rows.length
  | [], _, _, _ => rfl
  | row :: rest, left, h, hc => by
    obtain ⟨j, _, _, _, q4, _, q6, _⟩ := best_step h (by simpa using hc)
    rw [q6, List.length_cons, choose_len (sq_tail h) q4, List.length_cons]

/-- the sum of a choice: none if a column is none or was there -/
def costGo (n : Nat) : List (List Int) → List Int → List Int → Int → Option Int
  | _, [], _, s => some s
  | [], _ :: _, _, _ => none
  | row :: rest, k :: m, seen, s => if k < 0 ∨ (n : Int) ≤ k ∨ k ∈ seen then none else costGo n rest m (seen ++ [k]) (s + row.getD k.toNat 0)
def Seen (n : Nat) (left : Nat → Bool) (seen : List Int) : Prop := ∀ k, k < n → (left k = true ↔ (k : Int) ∉ seen)
theorem seen_del {n : Nat} {left : Nat → Bool} {seen : List Int} (h : Seen n left seen) (j : Nat) : Seen n (delC left j) (seen ++ [(j : Int)]) := fun k hk => by
  unfold delC
  have := h k hk
  simp only [Bool.and_eq_true, bne_iff_ne, ne_eq, List.mem_append, List.mem_singleton, not_or, this]
  exact ⟨fun ⟨a, b⟩ => ⟨a, by omega⟩, fun ⟨a, b⟩ => ⟨a, by omega⟩⟩
/-- none is cheaper -/
theorem cost_ge {n : Nat} : ∀ {rows : List (List Int)} {m seen : List Int} {left : Nat → Bool} {s t : Int}, SqOk n rows → rows.length ≤ cntL left n → rows.length = m.length → Seen n left seen →
    costGo n rows m seen s = some t → s + bestS rows left ≤ t
  | [], [], _, _, s, t, _, _, _, _, h => by
    rw [costGo] at h
    injection h with h
    rw [bestS]; omega
  | [], _ :: _, _, _, _, _, _, _, hl, _, _ => by simp at hl
  | _ :: _, [], _, _, _, _, _, _, hl, _, _ => by simp at hl
  | row :: rest, k :: m, seen, left, s, t, hs, hc, hl, hseen, h => by
    rw [costGo] at h
    by_cases hb : k < 0 ∨ (n : Int) ≤ k ∨ k ∈ seen
    · rw [if_pos hb] at h; cases h
    · rw [if_neg hb] at h
      obtain ⟨j, rfl⟩ : ∃ j : Nat, k = j := ⟨k.toNat, by omega⟩
      have hj : j < n := by omega
      have hlj : left j = true := (hseen j hj).2 fun q => hb (.inr (.inr q))
      obtain ⟨_, _, _, _, _, q, _⟩ := best_step hs (by simpa using hc)
      have q := q j hj hlj
      have := cost_ge (sq_tail hs) (by have := cnt_del left hlj n hj; simp at hc; omega) (by simpa using hl) (seen_del hseen j) h
      rw [show ((j : Int)).toNat = j from rfl] at this
      omega
/-- what is chosen costs the least -/
theorem cost_choose {n : Nat} : ∀ {rows : List (List Int)} {seen : List Int} {left : Nat → Bool} {s : Int}, SqOk n rows → rows.length ≤ cntL left n → Seen n left seen →
    costGo n rows (chooseS rows left) seen s = some (s + bestS rows left)
  | [], _, _, s, _, _, _ => by rw [chooseS, costGo, bestS, Int.add_zero]
  | row :: rest, seen, left, s, hs, hc, hseen => by
    obtain ⟨j, q1, q2, q3, q4, _, q6, _⟩ := best_step hs (by simpa using hc)
    rw [q6, costGo, if_neg (by
      rintro (e | e | e)
      · omega
      · omega
      · exact (hseen j q1).1 q2 e), cost_choose (sq_tail hs) q4 (seen_del hseen j), q3, show ((j : Int)).toNat = j from rfl]
    congr 1; omega

end Go.Proofs.YtjiaidchcldocaaGreatDoor
namespace Go.Proofs.YtjiaidchcldocaaGreatDoor
def bitsOf (s : Nat) : Nat → Bool := fun k => s.testBit k
theorem bit_del_small : ∀ s, s < 256 → ∀ k, k < 8 → s.testBit k = true → ∀ j, j < 8 → (s - 2 ^ k).testBit j = (s.testBit j && j != k) := by decide +kernel
theorem low_small : ∀ s, s < 256 → 0 < s → cntL (bitsOf (s &&& (s - 1))) 8 + 1 = cntL (bitsOf s) 8 ∧ s &&& (s - 1) < s := by decide +kernel
theorem bits_le {s k : Nat} (h : s.testBit k = true) : 2 ^ k ≤ s := Nat.ge_two_pow_of_testBit h
theorem bits_del {s k : Nat} (hs : s < 256) (hk : k < 8) (h : bitsOf s k = true) : bitsOf (s - 2 ^ k) = delC (bitsOf s) k := by
  funext j
  unfold bitsOf delC
  by_cases hj : j < 8
  · exact bit_del_small s hs k hk h j hj
  · show (s - 2 ^ k).testBit j = (s.testBit j && j != k)
    have h1 : s < 2 ^ j := Nat.lt_of_lt_of_le hs (Nat.pow_le_pow_right (n := 2) (by decide) (show 8 ≤ j by omega))
    rw [Nat.testBit_lt_two_pow h1, Nat.testBit_lt_two_pow (Nat.lt_of_le_of_lt (Nat.sub_le _ _) h1)]; rfl
theorem bits_full (n k : Nat) : bitsOf (2 ^ n - 1) k = decide (k < n) := Nat.testBit_two_pow_sub_one n k
theorem cnt_full (n : Nat) : ∀ (k : Nat), k ≤ n → cntL (bitsOf (2 ^ n - 1)) k = k
  | 0, _ => rfl
  | k + 1, h => by rw [cntL, cnt_full n k (by omega), if_pos (by rw [bits_full]; simp; omega)]
theorem cnt_beyond {s n : Nat} (h : s < 2 ^ n) : ∀ (k : Nat), n ≤ k → cntL (bitsOf s) k = cntL (bitsOf s) n
  | 0, q => by rw [show n = 0 by omega]
  | k + 1, q => by
    by_cases e : n = k + 1
    · rw [e]
    · rw [cntL, cnt_beyond h k (by omega), if_neg]; · rfl
      unfold bitsOf
      rw [Nat.testBit_lt_two_pow (Nat.lt_of_lt_of_le h (Nat.pow_le_pow_right (n := 2) (by decide) (show n ≤ k by omega)))]
      decide
theorem cnt_zero (n : Nat) : cntL (bitsOf 0) n = 0 := by
  induction n with
  | zero => rfl
  | succ n ih => rw [cntL, ih, if_neg (by unfold bitsOf; simp)]
theorem cnt_pos {s : Nat} (h : s < 256) (h0 : 0 < s) : 0 < cntL (bitsOf s) 8 := by have := (low_small s h h0).1; omega
end Go.Proofs.YtjiaidchcldocaaGreatDoor
namespace Go.Proofs.YtjiaidchcldocaaGreatDoor

theorem best_le {n : Nat} : ∀ {rows : List (List Int)} {left : Nat → Bool}, SqBd n rows → rows.length ≤ cntL left n → 0 ≤ bestS rows left ∧ bestS rows left ≤ 100000 * rows.length
  | [], _, _, _ => ⟨Int.le_refl _, Int.le_refl _⟩
  | row :: rest, left, h, hc => by
    obtain ⟨j, _, _, q3, q4, _⟩ := best_step h.ok (by simpa using hc)
    have h1 := h.at j
    have h2 := best_le (left := delC left j) h.tail q4
    rw [q3, List.length_cons]
    omega
theorem cnt_le (left : Nat → Bool) : ∀ n, cntL left n ≤ n
  | 0 => Nat.le_refl _
  | n + 1 => by have := cnt_le left n; rw [cntL]; split <;> omega
/-- how many columns a set has -/
def cntN (s : Nat) : Nat := cntL (bitsOf s) 8
/-- the least cost of a set of columns for the last rows -/
def bestN (rows : List (List Int)) (s : Nat) : Int := bestS (rows.drop (rows.length - cntN s)) (bitsOf s)
theorem cntN_le {s n : Nat} (h : s < 2 ^ n) (hn : n ≤ 8) : cntN s ≤ n := by
  unfold cntN
  rw [cnt_beyond h 8 hn]
  exact cnt_le _ _
theorem cntN_zero : cntN 0 = 0 := cnt_zero 8
theorem cntN_full {n : Nat} (hn : n ≤ 8) : cntN (2 ^ n - 1) = n := by
  unfold cntN
  rw [cnt_beyond (n := n) (by have := Nat.two_pow_pos n; omega) 8 hn, cnt_full n n (Nat.le_refl _)]
theorem pow_small {s n : Nat} (h : s < 2 ^ n) (hn : n ≤ 8) : s < 256 := Nat.lt_of_lt_of_le h (Nat.pow_le_pow_right (n := 2) (by decide) hn)
theorem cntN_pos {s : Nat} (h : s < 256) (h0 : 0 < s) : 0 < cntN s := cnt_pos h h0
theorem cntN_low {s : Nat} (h : s < 256) (h0 : 0 < s) : cntN (s &&& (s - 1)) + 1 = cntN s ∧ s &&& (s - 1) < s := low_small s h h0
theorem cntN_del {s k : Nat} (h : s < 256) (hk : k < 8) (hb : bitsOf s k = true) : cntN (s - 2 ^ k) + 1 = cntN s ∧ 2 ^ k ≤ s := by
  unfold cntN
  rw [bits_del h hk hb]
  exact ⟨cnt_del (bitsOf s) hb 8 hk, bits_le hb⟩
theorem bestN_zero (rows : List (List Int)) : bestN rows 0 = 0 := by
  unfold bestN
  rw [cntN_zero, Nat.sub_zero, List.drop_length]; rfl
/-- a set with a column less: what the rows behind cost -/
theorem bestN_del {rows : List (List Int)} {s k r : Nat} (h : s < 256) (hk : k < 8) (hb : bitsOf s k = true) (hr : r + cntN s = rows.length) : bestN rows (s - 2 ^ k) = bestS (rows.drop (r + 1)) (delC (bitsOf s) k) := by
  have := (cntN_del h hk hb).1
  unfold bestN
  rw [bits_del h hk hb, show rows.length - cntN (s - 2 ^ k) = r + 1 by omega]
/-- and what they cost at most -/
theorem bestN_bd {rows : List (List Int)} {s : Nat} (hq : SqBd rows.length rows) (hn : rows.length ≤ 8) (h : s < 2 ^ rows.length) : 0 ≤ bestN rows s ∧ bestN rows s ≤ 800000 := by
  have hc := cntN_le h hn
  have := best_le (left := bitsOf s) (hq.drop (rows.length - cntN s)) (by rw [List.length_drop]; unfold cntN at *; rw [cnt_beyond h 8 hn] at hc ⊢; omega)
  unfold bestN
  rw [List.length_drop] at this
  omega
theorem bestN_step {rows : List (List Int)} {row : List Int} {s r : Nat} (hr : r + cntN s = rows.length) (hx : rows[r]? = some row) : bestN rows s = minGo (fun k => row.getD k 0 + bestS (rows.drop (r + 1)) (delC (bitsOf s) k)) (bitsOf s) row.length := by
  unfold bestN
  rw [show rows.length - cntN s = r by omega]
  obtain ⟨hk, e⟩ := List.getElem?_eq_some_iff.1 hx
  rw [List.drop_eq_getElem_cons hk, e, bestS]
end Go.Proofs.YtjiaidchcldocaaGreatDoor
namespace Go.Proofs.YtjiaidchcldocaaGreatDoor

/-- in how many lines two texts differ, as far as both go -/
def diffZ : List ByteArray → List ByteArray → Nat
  | x :: a, y :: b => (if x = y then 0 else 1) + diffZ a b
  | _, _ => 0
/-- in how many lines two texts differ -/
def diffN : List ByteArray → List ByteArray → Nat
  | x :: a, y :: b => (if x = y then 0 else 1) + diffN a b
  | [], b => b.length
  | a, [] => a.length
theorem diffZ_nil (a : List ByteArray) : diffZ a [] = 0 := by cases a <;> rfl
theorem diffN_eq : ∀ (a b : List ByteArray), diffN a b = (max a.length b.length - min a.length b.length) + diffZ a b
  | [], b => by simp [diffN, diffZ]
  | x :: a, [] => by simp [diffN, diffZ]
  | x :: a, y :: b => by
    rw [diffN, diffZ, diffN_eq a b, List.length_cons, List.length_cons]
    omega
theorem diffZ_le : ∀ (a b : List ByteArray), diffZ a b ≤ min a.length b.length
  | [], b => by simp [diffZ]
  | x :: a, [] => by simp [diffZ]
  | x :: a, y :: b => by
    have := diffZ_le a b
    rw [diffZ, List.length_cons, List.length_cons]
    split <;> omega
theorem diffN_le (a b : List ByteArray) : diffN a b ≤ max a.length b.length := by
  rw [diffN_eq]
  have := diffZ_le a b
  omega
theorem diffN_self : ∀ (a : List ByteArray), diffN a a = 0
  | [] => rfl
  | x :: a => by rw [diffN, if_pos rfl, diffN_self a]
theorem diffN_zero : ∀ (a b : List ByteArray), diffN a b = 0 → a = b
  | [], [], _ => rfl
  | [], _ :: _, h => by simp [diffN] at h
  | _ :: _, [], h => by simp [diffN] at h
  | x :: a, y :: b, h => by
    rw [diffN] at h
    by_cases e : x = y
    · rw [diffN_zero a b (by omega), e]
    · rw [if_neg e] at h; omega
/-- what a text costs by itself -/
def aloneN (a : List ByteArray) : Nat := (a.length + 1) / 2 + 1
/-- the cost of two places, of which one or both may be none -/
def rangeCost (a b : List (List ByteArray)) (i k : Nat) : Int := match a[i]?, b[k]? with
  | some x, some y => (diffN x y : Nat)
  | some x, none => (aloneN x : Nat)
  | none, some y => (aloneN y : Nat)
  | none, none => 0
def rowOf (a b : List (List ByteArray)) (i : Nat) : List Int := (List.range (a.length + b.length)).map (rangeCost a b i)
def costsOf (a b : List (List ByteArray)) : List (List Int) := (List.range (a.length + b.length)).map (rowOf a b)
theorem costs_len (a b : List (List ByteArray)) : (costsOf a b).length = a.length + b.length := by simp [costsOf]
theorem row_len (a b : List (List ByteArray)) (i : Nat) : (rowOf a b i).length = a.length + b.length := by simp [rowOf]
theorem cost_bd {a b : List (List ByteArray)} (ha : ∀ x ∈ a, x.length ≤ 99000) (hb : ∀ x ∈ b, x.length ≤ 99000) (i k : Nat) : 0 ≤ rangeCost a b i k ∧ rangeCost a b i k ≤ 100000 := by
  unfold rangeCost aloneN
  cases hi : a[i]? with
  | none =>
    cases hk : b[k]? with
    | none => simp only; omega
    | some y => have := hb y (List.mem_of_getElem? hk); simp only; omega
  | some x =>
    have h1 := ha x (List.mem_of_getElem? hi)
    cases hk : b[k]? with
    | none => simp only; omega
    | some y =>
      have h2 := hb y (List.mem_of_getElem? hk)
      have := diffN_le x y
      simp only; omega
theorem costs_bd {a b : List (List ByteArray)} (ha : ∀ x ∈ a, x.length ≤ 99000) (hb : ∀ x ∈ b, x.length ≤ 99000) : SqBd (costsOf a b).length (costsOf a b) := by
  rw [costs_len]
  intro row hr
  unfold costsOf at hr
  obtain ⟨i, -, rfl⟩ := List.mem_map.1 hr
  refine ⟨row_len a b i, fun c hc => ?_⟩
  unfold rowOf at hc
  obtain ⟨k, -, rfl⟩ := List.mem_map.1 hc
  exact cost_bd ha hb i k
theorem row_take {a b : List (List ByteArray)} {i k : Nat} (hk : k < a.length + b.length) : ((List.range (a.length + b.length)).take (k + 1)).map (rangeCost a b i) = ((List.range (a.length + b.length)).take k).map (rangeCost a b i) ++ [rangeCost a b i k] := by
  rw [List.take_add_one, List.getElem?_range hk, Option.toList_some, List.map_append]; rfl
theorem choose_mem {n : Nat} : ∀ {rows : List (List Int)} {left : Nat → Bool}, SqOk n rows → rows.length ≤ cntL left n → ∀ c ∈ chooseS rows left, ∃ k : Nat, c = k ∧ k < n ∧ left k = true
  | [], _, _, _, c, hc => by simp [chooseS] at hc
  | row :: rest, left, h, hl, c, hc => by
    obtain ⟨j, q1, q2, _, q4, _, q6, _⟩ := best_step h (by simpa using hl)
    rw [q6] at hc
    rcases List.mem_cons.1 hc with rfl | hc
    · exact ⟨j, rfl, q1, q2⟩
    · obtain ⟨k, e, r1, r2⟩ := choose_mem (sq_tail h) q4 c hc
      exact ⟨k, e, r1, (del_left r2).1⟩
theorem choose_nodup {n : Nat} : ∀ {rows : List (List Int)} {left : Nat → Bool}, SqOk n rows → rows.length ≤ cntL left n → (chooseS rows left).Nodup
  | [], _, _, _ => by simp [chooseS]
  | row :: rest, left, h, hl => by
    obtain ⟨j, q1, q2, _, q4, _, q6, _⟩ := best_step h (by simpa using hl)
    rw [q6, List.nodup_cons]
    refine ⟨fun hm => ?_, choose_nodup (sq_tail h) q4⟩
    obtain ⟨k, e, r1, r2⟩ := choose_mem (sq_tail h) q4 _ hm
    have : j = k := by omega
    subst this
    exact (del_left r2).2 rfl

/-- of the first series' places -/
def firstsOf (n : Nat) (m : List Int) (i : Nat) : Int × Int := (i, if m.getD i 0 < n then m.getD i 0 else -1)
def rangeOut (a b : Nat) (m : List Int) : List (Int × Int) := (List.range a).map (firstsOf b m) ++ ((List.range b).filter fun (k : Nat) => decide ((k : Int) ∈ m.drop a)).map fun (k : Nat) => ((-1 : Int), (k : Int))
theorem firsts_take {a b : Nat} {m : List Int} {i : Nat} (hi : i < a) : ((List.range a).take (i + 1)).map (firstsOf b m) = ((List.range a).take i).map (firstsOf b m) ++ [firstsOf b m i] := by
  rw [List.take_add_one, List.getElem?_range hi, Option.toList_some, List.map_append]; rfl
theorem thens_take {b : Nat} {k : Nat} (p : Nat → Bool) (hk : k < b) : (((List.range b).take (k + 1)).filter p).map (fun (k : Nat) => ((-1 : Int), (k : Int))) = (((List.range b).take k).filter p).map (fun (k : Nat) => ((-1 : Int), (k : Int))) ++ if p k = true then [((-1 : Int), (k : Int))] else [] := by
  rw [List.take_add_one, List.getElem?_range hk, Option.toList_some, List.filter_append, List.map_append]
  by_cases e : p k = true
  · rw [if_pos e, List.filter_cons, if_pos e]; rfl
  · rw [if_neg e, List.filter_cons, if_neg e]; rfl
/-- the patches' texts, by lines -/
def rtextOf (p : List Change) : List ByteArray := (linesG p).map toB
def rangeFault (p q : List (List Change)) : Int := if 4 < p.length ∨ 4 < q.length then 3 else firstOf (fun c => (patchFault c).2) (p ++ q)
def rangeM (p q : List (List Change)) : List Int := chooseS (costsOf (p.map rtextOf) (q.map rtextOf)) (bitsOf (2 ^ (costsOf (p.map rtextOf) (q.map rtextOf)).length - 1))
def rangeL (p q : List (List Change)) : List (Int × Int) := if rangeFault p q = 0 then rangeOut p.length q.length (rangeM p q) else []
theorem firstOf_app {α : Type} (f : α → Int) : ∀ (l m : List α), firstOf f (l ++ m) = if firstOf f l = 0 then firstOf f m else firstOf f l
  | [], m => by rw [List.nil_append, if_pos (by rfl)]
  | x :: l, m => by
    rw [List.cons_append, firstOf, firstOf]
    by_cases h : f x = 0
    · rw [if_pos h, if_pos h]; exact firstOf_app f l m
    · rw [if_neg h, if_neg h, if_neg h]

theorem nodup_le {α : Type} [BEq α] [LawfulBEq α] : ∀ (l r : List α), l.Nodup → (∀ x ∈ l, x ∈ r) → l.length ≤ r.length
  | [], _, _, _ => Nat.zero_le _
  | x :: l, r, h, hs => by
    rw [List.nodup_cons] at h
    have hx := hs x (List.mem_cons_self ..)
    have := nodup_le l (r.erase x) h.2 fun y hy => (List.mem_erase_of_ne (by rintro rfl; exact h.1 hy)).2 (hs y (List.mem_cons_of_mem _ hy))
    rw [List.length_erase_of_mem hx] at this
    have := List.length_pos_of_mem hx
    rw [List.length_cons]; omega
theorem nodup_all {m : List Int} {n : Nat} (h1 : m.Nodup) (h2 : ∀ c ∈ m, ∃ k : Nat, c = k ∧ k < n) (h3 : m.length = n) {k : Nat} (hk : k < n) : (k : Int) ∈ m := by
  by_cases h : (k : Int) ∈ m
  · exact h
  · exfalso
    have := nodup_le ((k : Int) :: m) ((List.range n).map fun (i : Nat) => (i : Int)) (by rw [List.nodup_cons]; exact ⟨h, h1⟩) (by
      intro x hx
      rcases List.mem_cons.1 hx with rfl | hx
      · exact List.mem_map.2 ⟨k, List.mem_range.2 hk, rfl⟩
      · obtain ⟨j, rfl, hj⟩ := h2 x hx
        exact List.mem_map.2 ⟨j, List.mem_range.2 hj, rfl⟩)
    rw [List.length_cons, List.length_map, List.length_range] at this
    omega
theorem cnt_all {n : Nat} : n ≤ cntL (bitsOf (2 ^ n - 1)) n := by rw [cnt_full n n (Nat.le_refl _)]; exact Nat.le_refl _
theorem choice_of {a b : List (List ByteArray)} (ha : ∀ x ∈ a, x.length ≤ 99000) (hb : ∀ x ∈ b, x.length ≤ 99000) : Choice (a.length + b.length) (chooseS (costsOf a b) (bitsOf (2 ^ (costsOf a b).length - 1))) := by
  have hq := (costs_bd ha hb).ok
  have hl := costs_len a b
  have hc : (costsOf a b).length ≤ cntL (bitsOf (2 ^ (costsOf a b).length - 1)) (costsOf a b).length := cnt_all
  refine ⟨by rw [choose_len hq hc, hl], choose_nodup hq hc, fun c hm => ?_⟩
  obtain ⟨k, e, h1, _⟩ := choose_mem hq hc c hm
  exact ⟨k, e, by rw [hl] at h1; exact h1⟩

end Go.Proofs.YtjiaidchcldocaaGreatDoor
namespace Go.Proofs.YtjiaidchcldocaaGreatDoor
open Go.RowKit Go.Maps

theorem intMap_made (w : World) : IntMap (w.alloc (.map #[] 0)) w.heap.size 0 fun _ => 0 :=
  ⟨_, World.ownsMap_made w _ _ _, isMap_empty, fun j => by simp [DataW.atKey]⟩
end Go.Proofs.YtjiaidchcldocaaGreatDoor
namespace Go.Proofs.YtjiaidchcldocaaGreatDoor
open Go.RowKit

theorem diffZ_step {a b : List ByteArray} {k : Nat} {x y : ByteArray} (hx : a[k]? = some x) (hy : b[k]? = some y) : diffZ (a.drop k) (b.drop k) = (if x = y then 0 else 1) + diffZ (a.drop (k + 1)) (b.drop (k + 1)) := by
  rw [drop_eq hx, drop_eq hy, diffZ]
theorem diffZ_end {a b : List ByteArray} {k : Nat} (h : min a.length b.length ≤ k) : diffZ (a.drop k) (b.drop k) = 0 := by
  rcases Nat.le_total a.length b.length with q | q
  · rw [List.drop_of_length_le (by omega), diffZ]; intros; simp_all
  · rw [List.drop_of_length_le (l := b) (by omega), diffZ_nil]
theorem str_ne (x y : ByteArray) : (x.toList != y.toList) = decide (x ≠ y) := by
  by_cases h : x = y
  · subst h; simp
  · rw [decide_eq_true h]
    simp only [bne_iff_ne, ne_eq]
    intro e
    apply h
    apply ByteArray.ext
    apply Array.toList_inj.1
    rw [← Lib.toList_data, ← Lib.toList_data, e]
theorem str_eqq (x y : ByteArray) : (x.toList == y.toList) = decide (x = y) := by
  by_cases h : x = y
  · subst h; simp
  · rw [decide_eq_false h]
    rw [beq_eq_false_iff_ne]
    intro e
    apply h
    apply ByteArray.ext
    apply Array.toList_inj.1
    rw [← Lib.toList_data, ← Lib.toList_data, e]

set_option maxHeartbeats 1000000 in
set_option maxRecDepth 100000 in
theorem apart_any (l m : List ByteArray) (v u : Value) (w : World) (h : Rdv w Never v l) (g : Rdv w Never u m) (hl : l.length ≤ 1000000) (hm : m.length ≤ 1000000) :
    Calls Tryz.prog 132 #[v, u] w fun e w' => e = .returned (.int .i64 (diffN l m : Nat)) ∧ Chg Never w w' := by
  obtain ⟨a, cap, rfl, h1, h2, h3⟩ := rdv_slice h
  obtain ⟨c, cap', rfl, g1, g2, g3⟩ := rdv_slice g
  unfold maxLen at h2 g2
  have HD := Lib.hid (diffN_eq l m)
  obtain ⟨M, hM⟩ : ∃ M, max l.length m.length - min l.length m.length = M := ⟨_, rfl⟩
  rw [hM] at HD
  have hMz : M ≤ 1000000 := by omega
  have hK : min l.length m.length ≤ 1000000 := by omega
  go_enter Tryz.func132, Tryz.ntmps132
  go_wp2_with fail
  have hm1 : max l.length m.length - min l.length m.length = M := hM
  go_loopw [5, 23] (fun nv iv wr => ∃ k n : Nat, k ≤ min l.length m.length ∧ iv = .int .i64 k ∧ nv = .int .i64 n ∧ n ≤ M + k ∧ Chg Never w wr ∧ Hid (n + diffZ (l.drop k) (m.drop k) = diffN l m)) (fun _ iv _ => min l.length m.length - (intOf iv).toNat)
  case atStart => exact ⟨0, M, Nat.zero_le _, rfl, by go_num, by omega, Chg.refl _ _, HD.out.symm⟩
  case round =>
    obtain ⟨k, n, hk, rfl, rfl, hn, hc, hJ⟩ := hrel
    rename World => wr
    by_cases hlt : k < min l.length m.length
    · obtain ⟨x, hx⟩ : ∃ x, l[k]? = some x := ⟨l[k]'(by omega), by simp⟩
      obtain ⟨y, hy⟩ : ∃ y, m[k]? = some y := ⟨m[k]'(by omega), by simp⟩
      obtain ⟨b, off, rfl, -, -, c0, -⟩ := elems_str h3 hx
      obtain ⟨b', off', rfl, -, -, d0, -⟩ := elems_str g3 hy
      have c0 := hc.cellNever c0
      have d0 := hc.cellNever d0
      have hst := diffZ_step hx hy
      have ib1 : (k : Int) < (l.length : Int) := by omega
      have ib2 : (k : Int) < (m.length : Int) := by omega
      clear h3 g3 hx hy
      by_cases e : x = y
      · have t1 := (str_ne x y).trans (decide_eq_false (by simpa using e))
        have t1b := (str_eqq x y).trans (decide_eq_true e)
        have HJ2 : Hid (n + diffZ (l.drop (k + 1)) (m.drop (k + 1)) = diffN l m) := by rw [Hid, ← hJ.out, hst, if_pos e]; omega
        clear e hst hJ
        go_wp2_with fail
        go_quiet (fail)
        go_wp2_with fail
        go_roundw
        case rel => exact ⟨k + 1, n, by omega, by go_num, rfl, by omega, hc.drewN _, HJ2⟩
        case measure => simp [intOf]; omega
      · have t1 := (str_ne x y).trans (decide_eq_true (by simpa using e))
        have t1b := (str_eqq x y).trans (decide_eq_false e)
        have HJ2 : Hid (n + 1 + diffZ (l.drop (k + 1)) (m.drop (k + 1)) = diffN l m) := by rw [Hid, ← hJ.out, hst, if_neg e]; omega
        clear e hst hJ
        go_wp2_with fail
        go_quiet (fail)
        go_wp2_with fail
        go_roundw
        case rel => exact ⟨k + 1, n + 1, by omega, by go_num, by go_num, by omega, hc.drewN _, HJ2⟩
        case measure => simp [intOf]; omega
    · have hJ2 := hJ.out
      rw [diffZ_end (by omega), Nat.add_zero] at hJ2
      go_wp2_with fail
      go_ret
      exact ⟨by rw [← hJ2]; rfl, hc⟩

set_option maxHeartbeats 1000000 in
set_option maxRecDepth 100000 in
theorem alone_any (l : List ByteArray) (v : Value) (w : World) (h : Rdv w Never v l) (hl : l.length ≤ 1000000) :
    Calls Tryz.prog 133 #[v] w fun e w' => e = .returned (.int .i64 (aloneN l : Nat)) ∧ Chg Never w w' := by
  obtain ⟨a, cap, rfl, h1, h2, h3⟩ := rdv_slice h
  have e1 : IntKind.i64.wrap ((l.length : Int) + 1) = ((l.length + 1 : Nat) : Int) := by rw [show (l.length : Int) + 1 = ((l.length + 1 : Nat) : Int) by omega]; exact IntWalk.i64_in _ (by omega)
  have e2 : (((l.length + 1 : Nat) : Int)).tdiv 2 = (((l.length + 1) / 2 : Nat) : Int) := by rw [Int.tdiv_eq_ediv_of_nonneg (by omega)]; omega
  have e3 : IntKind.i64.wrap ((((l.length + 1) / 2 : Nat) : Int)) = (((l.length + 1) / 2 : Nat) : Int) := IntWalk.i64_in _ (by omega)
  have e4 : IntKind.i64.wrap ((((l.length + 1) / 2 : Nat) : Int) + 1) = (aloneN l : Int) := by unfold aloneN; rw [show (((l.length + 1) / 2 : Nat) : Int) + 1 = (((l.length + 1) / 2 + 1 : Nat) : Int) by omega]; exact IntWalk.i64_in _ (by omega)
  go_enter Tryz.func133, Tryz.ntmps133
  go_wp2_with fail
  go_ret
  exact ⟨rfl, Chg.refl _ _⟩

end Go.Proofs.YtjiaidchcldocaaGreatDoor
