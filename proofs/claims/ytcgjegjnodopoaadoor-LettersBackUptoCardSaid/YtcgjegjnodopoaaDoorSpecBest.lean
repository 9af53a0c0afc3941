/-
  THE LEAST COSTS BY SETS OF COLUMNS, in plain Lean: bounds; how a set's is come by.
-/
import Derived.Test.YtcgjegjnodopoaaDoorSpecBits
namespace Go.Proofs.YtcgjegjnodopoaaDoor

/-- rows that may be, with bounded costs -/
def SqBd (n : Nat) (rows : List (List Int)) : Prop := ∀ row ∈ rows, row.length = n ∧ ∀ c ∈ row, 0 ≤ c ∧ c ≤ 100000
theorem SqBd.ok {n : Nat} {rows : List (List Int)} (h : SqBd n rows) : SqOk n rows := fun r hr => ⟨(h r hr).1, fun c hc => ((h r hr).2 c hc).1⟩
theorem SqBd.drop {n : Nat} {rows : List (List Int)} (h : SqBd n rows) (k : Nat) : SqBd n (rows.drop k) := fun r hr => h r (List.mem_of_mem_drop hr)
theorem SqBd.tail {n : Nat} {row : List Int} {rest : List (List Int)} (h : SqBd n (row :: rest)) : SqBd n rest := fun r hr => h r (List.mem_cons_of_mem _ hr)
theorem SqBd.at {n : Nat} {row : List Int} {rest : List (List Int)} (h : SqBd n (row :: rest)) (k : Nat) : 0 ≤ row.getD k 0 ∧ row.getD k 0 ≤ 100000 := by
  rw [List.getD_eq_getElem?_getD]
  cases e : row[k]? with
  | none => exact ⟨Int.le_refl _, by decide⟩
  | some c => exact (h row (List.mem_cons_self ..)).2 c (List.mem_of_getElem? e)
theorem best_le {n : Nat} : ∀ {rows : List (List Int)} {left : Nat → Bool}, SqBd n rows → rows.length ≤ cntL left n → 0 ≤ bestS rows left ∧ bestS rows left ≤ 100000 * rows.length
  | [], _, _, _ => ⟨Int.le_refl _, Int.le_refl _⟩
  | row :: rest, left, h, hc => by
    obtain ⟨j, _, _, q3, q4, _⟩ := best_step h.ok (by simpa using hc)
    have h1 := h.at j
    have h2 := best_le (left := delC left j) h.tail q4
    rw [q3, List.length_cons]
    omega
theorem cnt_le (left : Nat → Bool) : ∀ n, cntL left n ≤ n
  | 0 => Nat.le_refl _
  | n + 1 => by have := cnt_le left n; rw [cntL]; split <;> omega
/-- how many columns a set has -/
def cntN (s : Nat) : Nat := cntL (bitsOf s) 8
/-- the least cost of a set of columns for the last rows -/
def bestN (rows : List (List Int)) (s : Nat) : Int := bestS (rows.drop (rows.length - cntN s)) (bitsOf s)
theorem cntN_le {s n : Nat} (h : s < 2 ^ n) (hn : n ≤ 8) : cntN s ≤ n := by
  unfold cntN
  rw [cnt_beyond h 8 hn]
  exact cnt_le _ _
theorem cntN_zero : cntN 0 = 0 := cnt_zero 8
theorem cntN_full {n : Nat} (hn : n ≤ 8) : cntN (2 ^ n - 1) = n := by
  unfold cntN
  rw [cnt_beyond (n := n) (by have := Nat.two_pow_pos n; omega) 8 hn, cnt_full n n (Nat.le_refl _)]
theorem pow_small {s n : Nat} (h : s < 2 ^ n) (hn : n ≤ 8) : s < 256 := Nat.lt_of_lt_of_le h (Nat.pow_le_pow_right (n := 2) (by decide) hn)
theorem cntN_pos {s : Nat} (h : s < 256) (h0 : 0 < s) : 0 < cntN s := cnt_pos h h0
theorem cntN_low {s : Nat} (h : s < 256) (h0 : 0 < s) : cntN (s &&& (s - 1)) + 1 = cntN s ∧ s &&& (s - 1) < s := low_small s h h0
theorem cntN_del {s k : Nat} (h : s < 256) (hk : k < 8) (hb : bitsOf s k = true) : cntN (s - 2 ^ k) + 1 = cntN s ∧ 2 ^ k ≤ s := by
  unfold cntN
  rw [bits_del h hk hb]
  exact ⟨cnt_del (bitsOf s) hb 8 hk, bits_le hb⟩
theorem bestN_zero (rows : List (List Int)) : bestN rows 0 = 0 := by
  unfold bestN
  rw [cntN_zero, Nat.sub_zero, List.drop_length]; rfl
/-- a set with a column less: what the rows behind cost -/
theorem bestN_del {rows : List (List Int)} {s k r : Nat} (h : s < 256) (hk : k < 8) (hb : bitsOf s k = true) (hr : r + cntN s = rows.length) : bestN rows (s - 2 ^ k) = bestS (rows.drop (r + 1)) (delC (bitsOf s) k) := by
  have := (cntN_del h hk hb).1
  unfold bestN
  rw [bits_del h hk hb, show rows.length - cntN (s - 2 ^ k) = r + 1 by omega]
/-- and what they cost at most -/
theorem bestN_bd {rows : List (List Int)} {s : Nat} (hq : SqBd rows.length rows) (hn : rows.length ≤ 8) (h : s < 2 ^ rows.length) : 0 ≤ bestN rows s ∧ bestN rows s ≤ 800000 := by
  have hc := cntN_le h hn
  have := best_le (left := bitsOf s) (hq.drop (rows.length - cntN s)) (by rw [List.length_drop]; unfold cntN at *; rw [cnt_beyond h 8 hn] at hc ⊢; omega)
  unfold bestN
  rw [List.length_drop] at this
  omega
theorem bestN_step {rows : List (List Int)} {row : List Int} {s r : Nat} (hr : r + cntN s = rows.length) (hx : rows[r]? = some row) : bestN rows s = minGo (fun k => row.getD k 0 + bestS (rows.drop (r + 1)) (delC (bitsOf s) k)) (bitsOf s) row.length := by
  unfold bestN
  rw [show rows.length - cntN s = r by omega]
  obtain ⟨hk, e⟩ := List.getElem?_eq_some_iff.1 hx
  rw [List.drop_eq_getElem_cons hk, e, bestS]
/-! ### the numbers' bits -/
theorem tb_and : ∀ s, s < 256 → ∀ k, k < 8 → (s / 2 ^ k) % 2 = (if s.testBit k = true then 1 else 0) := by decide +kernel
end Go.Proofs.YtcgjegjnodopoaaDoor
