/-
  BYTES AS LETTERS, in plain Lean: what is written is read; 57 bytes more ahead are a line more ahead.
-/
import Derived.Test.YtcgjegjnodopoaaDoorSpec
namespace Go.Proofs.YtcgjegjnodopoaaDoor

/-- the 64 letters -/
def letters : List UInt8 := [65, 66, 67, 68, 69, 70, 71, 72, 73, 74, 75, 76, 77, 78, 79, 80, 81, 82, 83, 84, 85, 86, 87, 88, 89, 90, 97, 98, 99, 100, 101, 102, 103, 104, 105, 106, 107, 108, 109, 110, 111, 112, 113, 114, 115, 116, 117, 118, 119, 120, 121, 122, 48, 49, 50, 51, 52, 53, 54, 55, 56, 57, 43, 47]
def letterAt (k : Nat) : UInt8 := letters.getD k 0
def idxOf (c : UInt8) : Option Nat := letters.findIdx? (· == c)
/-- up to three bytes as a number -/
def num3 : List UInt8 → Nat
  | [] => 0
  | [a] => a.toNat * 65536
  | [a, b] => a.toNat * 65536 + b.toNat * 256
  | a :: b :: c :: _ => a.toNat * 65536 + b.toNat * 256 + c.toNat
/-- four letters of at most three bytes -/
def fourOf (l : List UInt8) : List UInt8 :=
  (List.range 4).map fun i => if l.length < i then 61 else letterAt (num3 l / 2 ^ (18 - 6 * i) % 64)
/-- the letters of some bytes, so many of them written before -/
def encGo : List UInt8 → Nat → List UInt8
  | [], _ => []
  | x :: r, n => fourOf ((x :: r).take 3) ++ (if (n + 4) % 76 = 0 ∨ (x :: r).drop 3 = [] then [10] else []) ++ encGo ((x :: r).drop 3) (n + 4)
termination_by l _ => l.length
decreasing_by simp; omega
def encL (l : List UInt8) : List UInt8 := encGo l 0
/-- letter by letter: bytes that come of them -/
def decGo : List UInt8 → Nat → Nat → List UInt8 → List UInt8
  | [], _, _, out => out
  | c :: r, n, bits, out => match idxOf c with
    | none => out
    | some k => if 8 ≤ bits + 6 then decGo r ((n * 64 + k) % 2 ^ (bits + 6 - 8)) (bits + 6 - 8) (out ++ [UInt8.ofNat ((n * 64 + k) / 2 ^ (bits + 6 - 8))]) else decGo r (n * 64 + k) (bits + 6) out
def decL (s : List UInt8) : List UInt8 := decGo (s.filter (· ≠ 10)) 0 0 []

theorem idx_letter : ∀ k, k < 64 → idxOf (letterAt k) = some k := by decide +kernel
theorem letter_nl : ∀ k, k < 64 → letterAt k ≠ 10 := by decide +kernel
theorem four_nl (l : List UInt8) : ∀ c ∈ fourOf l, c ≠ 10 := by
  intro c hc
  unfold fourOf at hc
  obtain ⟨i, _, rfl⟩ := List.mem_map.1 hc
  split
  · decide
  · exact letter_nl _ (Nat.mod_lt _ (by decide))
theorem four_len (l : List UInt8) : (fourOf l).length = 4 := by simp [fourOf]
theorem num3_0 (a b c : UInt8) : num3 [a, b, c] = a.toNat * 65536 + b.toNat * 256 + c.toNat := rfl
theorem four_3 (a b c : UInt8) : fourOf [a, b, c] = [letterAt (a.toNat / 4), letterAt (a.toNat % 4 * 16 + b.toNat / 16), letterAt (b.toNat % 16 * 4 + c.toNat / 64), letterAt (c.toNat % 64)] := by
  have ha := a.toNat_lt
  have hb := b.toNat_lt
  have hc := c.toNat_lt
  have e0 : (a.toNat * 65536 + b.toNat * 256 + c.toNat) / 262144 % 64 = a.toNat / 4 := by omega
  have e1 : (a.toNat * 65536 + b.toNat * 256 + c.toNat) / 4096 % 64 = a.toNat % 4 * 16 + b.toNat / 16 := by omega
  have e2 : (a.toNat * 65536 + b.toNat * 256 + c.toNat) / 64 % 64 = b.toNat % 16 * 4 + c.toNat / 64 := by omega
  have e3 : (a.toNat * 65536 + b.toNat * 256 + c.toNat) / 1 % 64 = c.toNat % 64 := by omega
  show [letterAt ((a.toNat * 65536 + b.toNat * 256 + c.toNat) / 262144 % 64), letterAt ((a.toNat * 65536 + b.toNat * 256 + c.toNat) / 4096 % 64), letterAt ((a.toNat * 65536 + b.toNat * 256 + c.toNat) / 64 % 64), letterAt ((a.toNat * 65536 + b.toNat * 256 + c.toNat) / 1 % 64)] = _
  rw [e0, e1, e2, e3]
theorem four_2 (a b : UInt8) : fourOf [a, b] = [letterAt (a.toNat / 4), letterAt (a.toNat % 4 * 16 + b.toNat / 16), letterAt (b.toNat % 16 * 4), 61] := by
  have ha := a.toNat_lt
  have hb := b.toNat_lt
  have e0 : (a.toNat * 65536 + b.toNat * 256) / 262144 % 64 = a.toNat / 4 := by omega
  have e1 : (a.toNat * 65536 + b.toNat * 256) / 4096 % 64 = a.toNat % 4 * 16 + b.toNat / 16 := by omega
  have e2 : (a.toNat * 65536 + b.toNat * 256) / 64 % 64 = b.toNat % 16 * 4 := by omega
  show [letterAt ((a.toNat * 65536 + b.toNat * 256) / 262144 % 64), letterAt ((a.toNat * 65536 + b.toNat * 256) / 4096 % 64), letterAt ((a.toNat * 65536 + b.toNat * 256) / 64 % 64), 61] = _
  rw [e0, e1, e2]
theorem four_1 (a : UInt8) : fourOf [a] = [letterAt (a.toNat / 4), letterAt (a.toNat % 4 * 16), 61, 61] := by
  have ha := a.toNat_lt
  have e0 : (a.toNat * 65536) / 262144 % 64 = a.toNat / 4 := by omega
  have e1 : (a.toNat * 65536) / 4096 % 64 = a.toNat % 4 * 16 := by omega
  show [letterAt ((a.toNat * 65536) / 262144 % 64), letterAt ((a.toNat * 65536) / 4096 % 64), 61, 61] = _
  rw [e0, e1]
theorem dec_step {k n bits : Nat} (hk : k < 64) (r out : List UInt8) : decGo (letterAt k :: r) n bits out = if 8 ≤ bits + 6 then decGo r ((n * 64 + k) % 2 ^ (bits + 6 - 8)) (bits + 6 - 8) (out ++ [UInt8.ofNat ((n * 64 + k) / 2 ^ (bits + 6 - 8))]) else decGo r (n * 64 + k) (bits + 6) out := by
  rw [decGo, idx_letter k hk]
theorem dec_stop (r : List UInt8) (n bits : Nat) (out : List UInt8) : decGo (61 :: r) n bits out = out := by
  rw [decGo, show idxOf 61 = none by decide +kernel]
theorem ofNat_is {a : UInt8} {n : Nat} (h : n = a.toNat) : UInt8.ofNat n = a := by rw [h]; simp
theorem dec_two (a : UInt8) {k : Nat} (hk : k < 16) (r out : List UInt8) : decGo (letterAt (a.toNat / 4) :: letterAt (a.toNat % 4 * 16 + k) :: r) 0 0 out = decGo r k 4 (out ++ [a]) := by
  have ha := a.toNat_lt
  rw [dec_step (by omega), if_neg (by decide), dec_step (by omega), if_pos (by decide)]
  show decGo r (((0 * 64 + a.toNat / 4) * 64 + (a.toNat % 4 * 16 + k)) % 16) 4 (out ++ [UInt8.ofNat (((0 * 64 + a.toNat / 4) * 64 + (a.toNat % 4 * 16 + k)) / 16)]) = _
  rw [show ((0 * 64 + a.toNat / 4) * 64 + (a.toNat % 4 * 16 + k)) % 16 = k by omega, ofNat_is (a := a) (by omega)]
theorem dec_three (b : UInt8) {k : Nat} (hk : k < 4) (r out : List UInt8) : decGo (letterAt (b.toNat % 16 * 4 + k) :: r) (b.toNat / 16) 4 out = decGo r k 2 (out ++ [b]) := by
  have hb := b.toNat_lt
  rw [dec_step (by omega), if_pos (by decide)]
  show decGo r ((b.toNat / 16 * 64 + (b.toNat % 16 * 4 + k)) % 4) 2 (out ++ [UInt8.ofNat ((b.toNat / 16 * 64 + (b.toNat % 16 * 4 + k)) / 4)]) = _
  rw [show (b.toNat / 16 * 64 + (b.toNat % 16 * 4 + k)) % 4 = k by omega, ofNat_is (a := b) (by omega)]
theorem dec_four (c : UInt8) (r out : List UInt8) : decGo (letterAt (c.toNat % 64) :: r) (c.toNat / 64) 2 out = decGo r 0 0 (out ++ [c]) := by
  have hc := c.toNat_lt
  rw [dec_step (by omega), if_pos (by decide)]
  show decGo r ((c.toNat / 64 * 64 + c.toNat % 64) % 1) 0 (out ++ [UInt8.ofNat ((c.toNat / 64 * 64 + c.toNat % 64) / 1)]) = _
  rw [show (c.toNat / 64 * 64 + c.toNat % 64) % 1 = 0 by omega, ofNat_is (a := c) (by omega)]
theorem filter_four (l : List UInt8) : (fourOf l).filter (· ≠ 10) = fourOf l := List.filter_eq_self.2 fun c hc => by simpa using four_nl l c hc
theorem filter_nl (p : Prop) [Decidable p] : (if p then [(10 : UInt8)] else []).filter (· ≠ 10) = [] := by split <;> rfl
theorem dec_enc : ∀ (k : Nat) (l : List UInt8) (n : Nat) (out : List UInt8), l.length ≤ k → decGo ((encGo l n).filter (· ≠ 10)) 0 0 out = out ++ l
  | _, [], n, out, _ => by rw [encGo]; simp [decGo]
  | 0, _ :: _, _, _, h => by simp at h
  | _ + 1, [a], n, out, _ => by
    have ha := a.toNat_lt
    rw [encGo]
    simp only [List.take_succ_cons, List.take_nil, List.drop_succ_cons, List.drop_nil, List.filter_append, filter_four, filter_nl, List.append_nil]
    rw [encGo, four_1, show a.toNat % 4 * 16 = a.toNat % 4 * 16 + 0 by omega]
    simp only [List.filter_nil, List.append_nil]
    rw [dec_two a (by decide), dec_stop]
  | _ + 1, [a, b], n, out, _ => by
    have ha := a.toNat_lt
    have hb := b.toNat_lt
    rw [encGo]
    simp only [List.take_succ_cons, List.take_nil, List.drop_succ_cons, List.drop_nil, List.filter_append, filter_four, filter_nl, List.append_nil]
    rw [encGo, four_2, show b.toNat % 16 * 4 = b.toNat % 16 * 4 + 0 by omega]
    simp only [List.filter_nil, List.append_nil]
    rw [dec_two a (by omega), dec_three b (by decide), dec_stop]
    simp
  | k + 1, a :: b :: c :: r, n, out, h => by
    have ha := a.toNat_lt
    have hb := b.toNat_lt
    have hc := c.toNat_lt
    rw [encGo]
    simp only [List.take_succ_cons, List.take_zero, List.drop_succ_cons, List.drop_zero, List.filter_append, filter_four, filter_nl, List.append_nil]
    rw [four_3]
    simp only [List.cons_append, List.nil_append]
    rw [dec_two a (by omega), dec_three b (by omega), dec_four c, dec_enc k r (n + 4) _ (by simp at h; omega)]
    simp
/-- what is written is read -/
theorem dec_encL (l : List UInt8) : decL (encL l) = l := by
  unfold decL encL
  rw [dec_enc l.length l 0 [] (Nat.le_refl _), List.nil_append]
/-! ### lines -/
theorem enc_mod : ∀ (k : Nat) (l : List UInt8) (n m : Nat), l.length ≤ k → n % 76 = m % 76 → encGo l n = encGo l m
  | _, [], n, m, _, _ => by rw [encGo, encGo]
  | 0, _ :: _, _, _, h, _ => by simp at h
  | k + 1, x :: r, n, m, h, e => by
    rw [encGo, encGo]
    have e2 : (n + 4) % 76 = (m + 4) % 76 := by omega
    rw [enc_mod k ((x :: r).drop 3) (n + 4) (m + 4) (by simp at h ⊢; omega) e2, e2]
/-- so many groups of three ahead, and more behind -/
theorem enc_ahead : ∀ (k : Nat) (m : List UInt8) (b : List UInt8) (n : Nat), m.length = 3 * k → b ≠ [] → n + 4 * k ≤ 76 → ∃ s, encGo (m ++ b) n = s ++ (if n + 4 * k = 76 ∧ 0 < k then [10] else []) ++ encGo b (n + 4 * k) ∧ (0 < k → encGo m n = s ++ [10])
  | 0, m, b, n, h, _, _ => by
    have : m = [] := List.eq_nil_of_length_eq_zero h
    subst this
    exact ⟨[], by simp, fun h => absurd h (by decide)⟩
  | k + 1, m, b, n, h, hb, hn => by
    match m, h with
    | x :: y :: z :: r, h =>
      have hr : r.length = 3 * k := by simp at h; omega
      obtain ⟨s, h1, h2⟩ := enc_ahead k r b (n + 4) hr hb (by omega)
      have e1 : ((x :: y :: z :: r) ++ b).take 3 = [x, y, z] := rfl
      have e2 : ((x :: y :: z :: r) ++ b).drop 3 = r ++ b := rfl
      have e3 : (x :: y :: z :: r).take 3 = [x, y, z] := rfl
      have e4 : (x :: y :: z :: r).drop 3 = r := rfl
      have hne : r ++ b ≠ [] := by simp [hb]
      rw [List.cons_append, encGo, encGo]
      rw [show (x :: (y :: z :: r ++ b)) = (x :: y :: z :: r) ++ b from rfl, e1, e2, e3, e4, h1]
      by_cases hk : k = 0
      · subst hk
        have hr0 : r = [] := List.eq_nil_of_length_eq_zero hr
        subst hr0
        have hs : s = [] := by
          have := congrArg List.length h1
          simp at this
          exact this
        subst hs
        refine ⟨fourOf [x, y, z], ?_, fun _ => by rw [encGo, if_pos (.inr rfl)]; simp⟩
        by_cases h76 : n + 4 = 76
        · rw [if_pos (.inl (by rw [h76])), if_neg (by simp), if_pos ⟨by omega, by decide⟩]; simp
        · rw [if_neg (by rintro (h | h); · omega
                         · exact hne h), if_neg (by simp), if_neg (by rintro ⟨h, _⟩; omega)]; simp
      · have hn4 : ¬ (n + 4) % 76 = 0 := by omega
        have hrn : r ≠ [] := fun e => by rw [e] at hr; simp at hr; omega
        rw [if_neg (by rintro (h | h); · exact hn4 h
                       · exact hne h)]
        refine ⟨fourOf [x, y, z] ++ s, ?_, fun _ => ?_⟩
        · have e5 : n + 4 + 4 * k = n + 4 * (k + 1) := by omega
          rw [e5]
          have e6 : (n + 4 * (k + 1) = 76 ∧ 0 < k) ↔ (n + 4 * (k + 1) = 76 ∧ 0 < k + 1) := by omega
          simp only [e6, List.append_assoc, List.nil_append]
        · rw [if_neg (by rintro (h | h); · exact hn4 h
                         · exact hrn h), h2 (by omega)]
          simp
/-- 57 bytes more ahead are a line more ahead -/
theorem enc_line (m b : List UInt8) (h : m.length = 57) : encL (m ++ b) = encL m ++ encL b := by
  unfold encL
  by_cases hb : b = []
  · subst hb
    rw [List.append_nil, show encGo [] 0 = [] by rw [encGo], List.append_nil]
  · obtain ⟨s, h1, h2⟩ := enc_ahead 19 m b 0 (by omega) hb (by omega)
    rw [h1, h2 (by decide), enc_mod b.length b (0 + 4 * 19) 0 (Nat.le_refl _) (by decide)]
    simp
end Go.Proofs.YtcgjegjnodopoaaDoor
