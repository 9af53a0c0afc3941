/-
  THE DOCUMENT'S WAY WITH LETTERS, in plain Lean: bit by bit it is the same; what it reads is what the program reads.
-/
import Derived.Test.YtcgjegjnodopoaaDoorSpecLetters
namespace Go.Proofs.YtcgjegjnodopoaaDoor

/-! ### written bit by bit -/
def bitAt (l : List UInt8) (k : Nat) : Nat := if k < 8 * l.length then (l.getD (k / 8) 0).toNat / 2 ^ (7 - k % 8) % 2 else 0
def sixAt (l : List UInt8) (i : Nat) : Nat := (((((bitAt l i * 2 + bitAt l (i + 1)) * 2 + bitAt l (i + 2)) * 2 + bitAt l (i + 3)) * 2 + bitAt l (i + 4)) * 2) + bitAt l (i + 5)
def rawL (l : List UInt8) : List UInt8 := (List.range ((8 * l.length + 5) / 6)).map fun j => letterAt (sixAt l (6 * j))
def padL (s : List UInt8) : List UInt8 := s ++ List.replicate ((4 - s.length % 4) % 4) 61
def lineGo (s : List UInt8) : List UInt8 := if 76 < s.length then s.take 76 ++ [10] ++ lineGo (s.drop 76) else if s = [] then [] else s ++ [10]
termination_by s.length
decreasing_by simp; omega
def flatE : List UInt8 → List UInt8
  | [] => []
  | x :: r => fourOf ((x :: r).take 3) ++ flatE ((x :: r).drop 3)
termination_by l => l.length
decreasing_by simp; omega
theorem flat_3 (a b c : UInt8) (r : List UInt8) : flatE (a :: b :: c :: r) = fourOf [a, b, c] ++ flatE r := by rw [flatE]; rfl
theorem flat_2 (a b : UInt8) : flatE [a, b] = fourOf [a, b] := by rw [flatE]; show fourOf [a, b] ++ flatE [] = _; rw [flatE, List.append_nil]
theorem flat_1 (a : UInt8) : flatE [a] = fourOf [a] := by rw [flatE]; show fourOf [a] ++ flatE [] = _; rw [flatE, List.append_nil]
theorem bit_next (a b c : UInt8) (r : List UInt8) (k : Nat) : bitAt (a :: b :: c :: r) (24 + k) = bitAt r k := by
  unfold bitAt
  have e1 : (24 + k) / 8 = k / 8 + 1 + 1 + 1 := by omega
  have e2 : (24 + k) % 8 = k % 8 := by omega
  have e3 : (24 + k < 8 * (a :: b :: c :: r).length) = (k < 8 * r.length) := by simp only [List.length_cons, eq_iff_iff]; omega
  simp only [e1, e2, e3, List.getD_cons_succ]
theorem six_next (a b c : UInt8) (r : List UInt8) (k : Nat) : sixAt (a :: b :: c :: r) (24 + k) = sixAt r k := by
  unfold sixAt
  rw [show 24 + k + 1 = 24 + (k + 1) by omega, show 24 + k + 2 = 24 + (k + 2) by omega, show 24 + k + 3 = 24 + (k + 3) by omega, show 24 + k + 4 = 24 + (k + 4) by omega, show 24 + k + 5 = 24 + (k + 5) by omega]
  simp only [bit_next]
theorem bit_0 (a : UInt8) (r : List UInt8) {k : Nat} (h : k < 8) : bitAt (a :: r) k = a.toNat / 2 ^ (7 - k) % 2 := by
  unfold bitAt
  rw [if_pos (by simp; omega), show k / 8 = 0 by omega, show k % 8 = k by omega]; rfl
theorem bit_1 (a b : UInt8) (r : List UInt8) {k : Nat} (h : k < 8) : bitAt (a :: b :: r) (8 + k) = b.toNat / 2 ^ (7 - k) % 2 := by
  unfold bitAt
  rw [if_pos (by simp; omega), show (8 + k) / 8 = 1 by omega, show (8 + k) % 8 = k by omega]; rfl
theorem bit_2 (a b c : UInt8) (r : List UInt8) {k : Nat} (h : k < 8) : bitAt (a :: b :: c :: r) (16 + k) = c.toNat / 2 ^ (7 - k) % 2 := by
  unfold bitAt
  rw [if_pos (by simp; omega), show (16 + k) / 8 = 2 by omega, show (16 + k) % 8 = k by omega]; rfl
theorem bit_end (l : List UInt8) {k : Nat} (h : 8 * l.length ≤ k) : bitAt l k = 0 := if_neg (by omega)
theorem six_a (a : UInt8) (r : List UInt8) : sixAt (a :: r) 0 = a.toNat / 4 := by
  have ha := a.toNat_lt
  unfold sixAt
  rw [bit_0 a r (by decide), bit_0 a r (by decide), bit_0 a r (by decide), bit_0 a r (by decide), bit_0 a r (by decide), bit_0 a r (by decide)]
  simp only [Nat.zero_add, Nat.reduceSub, Nat.reducePow]
  omega
theorem six_b (a b : UInt8) (r : List UInt8) : sixAt (a :: b :: r) 6 = a.toNat % 4 * 16 + b.toNat / 16 := by
  have ha := a.toNat_lt
  have hb := b.toNat_lt
  unfold sixAt
  rw [bit_0 a (b :: r) (by decide), bit_0 a (b :: r) (by decide), show 6 + 2 = 8 + 0 from rfl, bit_1 a b r (by decide), show 6 + 3 = 8 + 1 from rfl, bit_1 a b r (by decide), show 6 + 4 = 8 + 2 from rfl, bit_1 a b r (by decide), show 6 + 5 = 8 + 3 from rfl, bit_1 a b r (by decide)]
  simp only [Nat.reduceAdd, Nat.reduceSub, Nat.reducePow, Nat.sub_zero, Nat.div_one]
  omega
theorem six_c (a b c : UInt8) (r : List UInt8) : sixAt (a :: b :: c :: r) 12 = b.toNat % 16 * 4 + c.toNat / 64 := by
  have hb := b.toNat_lt
  have hc := c.toNat_lt
  unfold sixAt
  rw [show 12 = 8 + 4 from rfl, bit_1 a b (c :: r) (by decide), show 8 + 4 + 1 = 8 + 5 from rfl, bit_1 a b (c :: r) (by decide), show 8 + 4 + 2 = 8 + 6 from rfl, bit_1 a b (c :: r) (by decide), show 8 + 4 + 3 = 8 + 7 from rfl, bit_1 a b (c :: r) (by decide), show 8 + 4 + 4 = 16 + 0 from rfl, bit_2 a b c r (by decide), show 8 + 4 + 5 = 16 + 1 from rfl, bit_2 a b c r (by decide)]
  simp only [Nat.reduceSub, Nat.reducePow, Nat.sub_zero, Nat.div_one]
  omega
theorem six_d (a b c : UInt8) (r : List UInt8) : sixAt (a :: b :: c :: r) 18 = c.toNat % 64 := by
  have hc := c.toNat_lt
  unfold sixAt
  rw [show 18 = 16 + 2 from rfl, bit_2 a b c r (by decide), show 16 + 2 + 1 = 16 + 3 from rfl, bit_2 a b c r (by decide), show 16 + 2 + 2 = 16 + 4 from rfl, bit_2 a b c r (by decide), show 16 + 2 + 3 = 16 + 5 from rfl, bit_2 a b c r (by decide), show 16 + 2 + 4 = 16 + 6 from rfl, bit_2 a b c r (by decide), show 16 + 2 + 5 = 16 + 7 from rfl, bit_2 a b c r (by decide)]
  simp only [Nat.reduceSub, Nat.reducePow, Nat.sub_zero, Nat.div_one]
  omega
theorem six_a1 (a : UInt8) : sixAt [a] 6 = a.toNat % 4 * 16 := by
  have ha := a.toNat_lt
  unfold sixAt
  rw [bit_0 a [] (by decide), bit_0 a [] (by decide), bit_end [a] (by simp), bit_end [a] (by simp), bit_end [a] (by simp), bit_end [a] (by simp)]
  simp only [Nat.reduceAdd, Nat.reduceSub, Nat.reducePow, Nat.div_one]
  omega
theorem six_b1 (a b : UInt8) : sixAt [a, b] 12 = b.toNat % 16 * 4 := by
  have hb := b.toNat_lt
  unfold sixAt
  rw [show 12 = 8 + 4 from rfl, bit_1 a b [] (by decide), show 8 + 4 + 1 = 8 + 5 from rfl, bit_1 a b [] (by decide), show 8 + 4 + 2 = 8 + 6 from rfl, bit_1 a b [] (by decide), show 8 + 4 + 3 = 8 + 7 from rfl, bit_1 a b [] (by decide), bit_end [a, b] (by simp), bit_end [a, b] (by simp)]
  simp only [Nat.reduceSub, Nat.reducePow, Nat.sub_zero, Nat.div_one]
  omega
theorem map_4 (f : Nat → UInt8) : (List.range 4).map f = [f 0, f 1, f 2, f 3] := by simp [List.range_succ]
theorem map_3 (f : Nat → UInt8) : (List.range 3).map f = [f 0, f 1, f 2] := by simp [List.range_succ]
theorem map_2 (f : Nat → UInt8) : (List.range 2).map f = [f 0, f 1] := by simp [List.range_succ]
theorem raw_1 (a : UInt8) : rawL [a] = [letterAt (sixAt [a] 0), letterAt (sixAt [a] 6)] := by
  have e : (8 * [a].length + 5) / 6 = 2 := by simp
  unfold rawL
  rw [e, map_2]
theorem raw_2 (a b : UInt8) : rawL [a, b] = [letterAt (sixAt [a, b] 0), letterAt (sixAt [a, b] 6), letterAt (sixAt [a, b] 12)] := by
  have e : (8 * [a, b].length + 5) / 6 = 3 := by simp
  unfold rawL
  rw [e, map_3]
theorem raw_3 (a b c : UInt8) (r : List UInt8) : rawL (a :: b :: c :: r) = fourOf [a, b, c] ++ rawL r := by
  unfold rawL
  have e : (8 * (a :: b :: c :: r).length + 5) / 6 = 4 + (8 * r.length + 5) / 6 := by simp only [List.length_cons]; omega
  rw [e, List.range_add, List.map_append, List.map_map, four_3, map_4]
  refine congr (congrArg HAppend.hAppend ?_) ?_
  · simp only [Nat.mul_zero, Nat.mul_one, Nat.reduceMul]
    rw [six_a, six_b, six_c, six_d]
  · refine List.map_congr_left fun j _ => ?_
    show letterAt (sixAt (a :: b :: c :: r) (6 * (4 + j))) = _
    rw [show 6 * (4 + j) = 24 + 6 * j by omega, six_next]
theorem pad_four {x : List UInt8} (h : x.length = 4) (s : List UInt8) : padL (x ++ s) = x ++ padL s := by
  unfold padL
  rw [List.length_append, h, show (4 + s.length) % 4 = s.length % 4 by omega, List.append_assoc]
theorem pad_raw : ∀ (k : Nat) (l : List UInt8), l.length ≤ k → padL (rawL l) = flatE l
  | _, [], _ => by rw [flatE]; rfl
  | 0, _ :: _, h => by simp at h
  | _ + 1, [a], _ => by
    rw [flat_1, four_1, raw_1, six_a, six_a1]
    rfl
  | _ + 1, [a, b], _ => by
    rw [flat_2, four_2, raw_2, six_a, six_b, six_b1]
    rfl
  | k + 1, a :: b :: c :: r, h => by
    rw [raw_3, pad_four (four_len _), flat_3, pad_raw k r (by simp at h; omega)]
theorem flat_app : ∀ (k : Nat) (m b : List UInt8), m.length = 3 * k → flatE (m ++ b) = flatE m ++ flatE b ∧ (flatE m).length = 4 * k
  | 0, m, b, h => by
    have : m = [] := List.eq_nil_of_length_eq_zero h
    subst this
    rw [flatE]; exact ⟨rfl, rfl⟩
  | k + 1, m, b, h => by
    match m, h with
    | x :: y :: z :: r, h =>
      obtain ⟨h1, h2⟩ := flat_app k r b (by simp at h; omega)
      rw [show (x :: y :: z :: r) ++ b = x :: y :: z :: (r ++ b) from rfl, flat_3, flat_3, h1, List.append_assoc, List.length_append, four_len, h2]
      exact ⟨rfl, by omega⟩
theorem flat_len : ∀ (k : Nat) (l : List UInt8), l.length ≤ k → (flatE l).length = 4 * ((l.length + 2) / 3)
  | _, [], _ => by rw [flatE]; rfl
  | 0, _ :: _, h => by simp at h
  | _ + 1, [a], _ => by rw [flat_1, four_len]; simp
  | _ + 1, [a, b], _ => by rw [flat_2, four_len]; simp
  | k + 1, a :: b :: c :: r, h => by
    rw [flat_3, List.length_append, four_len, flat_len k r (by simp at h; omega)]
    simp only [List.length_cons]; omega
/-- a last line -/
theorem enc_short : ∀ (k : Nat) (l : List UInt8) (n : Nat), l.length ≤ k → l ≠ [] → n + (flatE l).length ≤ 76 → encGo l n = flatE l ++ [10]
  | _, [], _, _, h, _ => absurd rfl h
  | 0, _ :: _, _, h, _, _ => by simp at h
  | _ + 1, [a], n, _, _, _ => by rw [encGo, flat_1]; show fourOf [a] ++ _ ++ encGo [] _ = _; rw [encGo, if_pos (.inr rfl), List.append_nil]
  | _ + 1, [a, b], n, _, _, _ => by rw [encGo, flat_2]; show fourOf [a, b] ++ _ ++ encGo [] _ = _; rw [encGo, if_pos (.inr rfl), List.append_nil]
  | k + 1, a :: b :: c :: r, n, h, _, hn => by
    rw [flat_3, List.length_append, four_len] at hn
    rw [encGo, flat_3]
    show fourOf [a, b, c] ++ (if (n + 4) % 76 = 0 ∨ r = [] then [10] else []) ++ encGo r (n + 4) = _
    by_cases hr : r = []
    · subst hr
      rw [if_pos (.inr rfl), encGo, flatE]; simp
    · have hp : 0 < (flatE r).length := by
        rw [flat_len r.length r (Nat.le_refl _)]
        have := List.length_pos_iff.2 hr
        omega
      rw [if_neg (by rintro (e | e); · omega
                     · exact hr e), enc_short k r (n + 4) (by simp at h; omega) hr (by omega)]
      simp
theorem line_flat : ∀ (k : Nat) (l : List UInt8), l.length ≤ k → lineGo (flatE l) = encL l
  | 0, l, h => by
    have : l = [] := List.eq_nil_of_length_eq_zero (by omega)
    subst this
    unfold encL
    rw [flatE, encGo, lineGo]; rfl
  | k + 1, l, h => by
    by_cases h57 : l.length ≤ 57
    · have hl : (flatE l).length ≤ 76 := by rw [flat_len l.length l (Nat.le_refl _)]; omega
      rw [lineGo, if_neg (by omega)]
      by_cases h0 : l = []
      · subst h0
        unfold encL
        rw [flatE, encGo]; rfl
      · have hne : flatE l ≠ [] := fun e => by
          have := flat_len l.length l (Nat.le_refl _)
          rw [e] at this
          have := List.length_pos_iff.2 h0
          simp at *
          omega
        rw [if_neg hne]
        exact (enc_short l.length l 0 (Nat.le_refl _) h0 (by omega)).symm
    · have e : l = l.take 57 ++ l.drop 57 := (List.take_append_drop _ _).symm
      have ht : (l.take 57).length = 57 := by rw [List.length_take]; omega
      have hd : (l.drop 57).length = l.length - 57 := List.length_drop
      obtain ⟨f1, f2⟩ := flat_app 19 (l.take 57) (l.drop 57) (by omega)
      rw [← e] at f1
      have hdl : 0 < (flatE (l.drop 57)).length := by rw [flat_len _ _ (Nat.le_refl _), hd]; omega
      have hen : encL l = encL (l.take 57) ++ encL (l.drop 57) := by
        conv => lhs; rw [e]
        exact enc_line _ _ ht
      have h1 : encL (l.take 57) = flatE (l.take 57) ++ [10] := enc_short 57 (l.take 57) 0 (by omega) (fun e => by rw [e] at ht; simp at ht) (by omega)
      rw [hen, h1, ← line_flat k (l.drop 57) (by omega), f1]
      conv => lhs; rw [lineGo]
      rw [if_pos (by rw [List.length_append]; omega), show 76 = (flatE (l.take 57)).length by omega, List.take_left, List.drop_left]
/-- bit by bit it is the same -/
theorem letters_same (l : List UInt8) : lineGo (padL (rawL l)) = encL l := by rw [pad_raw l.length l (Nat.le_refl _), line_flat l.length l (Nat.le_refl _)]
/-! ### read -/
/-- the document's reading: none where a letter is none -/
def refDec : List UInt8 → Nat → Nat → List UInt8 → Option (List UInt8)
  | [], _, _, out => some out
  | c :: r, n, bits, out => if c = 61 then some out else if c = 10 then refDec r n bits out else match idxOf c with
    | none => none
    | some k => if 8 ≤ bits + 6 then refDec r ((n * 64 + k) % 16777216) (bits + 6 - 8) (out ++ [UInt8.ofNat ((n * 64 + k) % 16777216 / 2 ^ (bits + 6 - 8))]) else refDec r ((n * 64 + k) % 16777216) (bits + 6) out
theorem idx_lt {c : UInt8} {k : Nat} (h : idxOf c = some k) : k < 64 := by
  unfold idxOf at h
  exact (List.findIdx?_eq_some_iff_findIdx_eq.1 h).1
theorem ref_dec : ∀ (s : List UInt8) (n m bits : Nat) (out o : List UInt8), bits < 8 → bits % 2 = 0 → n < 16777216 → n % 2 ^ bits = m → refDec s n bits out = some o → decGo (s.filter (· ≠ 10)) m bits out = o
  | [], _, _, _, _, _, _, _, _, _, h => by
    rw [refDec] at h
    injection h with h
  | c :: r, n, m, bits, out, o, hb, hev, hn, hm, h => by
    rw [refDec] at h
    by_cases h61 : c = 61
    · rw [if_pos h61] at h
      injection h with h
      subst h61
      show decGo (61 :: r.filter (· ≠ 10)) m bits out = o
      rw [dec_stop, h]
    · rw [if_neg h61] at h
      by_cases h10 : c = 10
      · rw [if_pos h10] at h
        subst h10
        show decGo (r.filter (· ≠ 10)) m bits out = o
        exact ref_dec r n m bits out o hb hev hn hm h
      · rw [if_neg h10] at h
        have hf : (c :: r).filter (· ≠ 10) = c :: r.filter (· ≠ 10) := by rw [List.filter_cons, if_pos (by simpa using h10)]
        rw [hf, decGo]
        cases hi : idxOf c with
        | none => rw [hi] at h; cases h
        | some k =>
          rw [hi] at h
          have hk := idx_lt hi
          simp only at h ⊢
          by_cases h8 : 8 ≤ bits + 6
          · rw [if_pos h8] at h
            rw [if_pos h8]
            have hcase : bits = 2 ∨ bits = 4 ∨ bits = 6 := by omega
            have e1 : (n * 64 + k) % 16777216 % 2 ^ (bits + 6 - 8) = (m * 64 + k) % 2 ^ (bits + 6 - 8) := by
              rcases hcase with rfl | rfl | rfl <;> simp only [Nat.reduceAdd, Nat.reduceSub, Nat.reducePow] at hm ⊢ <;> omega
            have e2 : UInt8.ofNat ((n * 64 + k) % 16777216 / 2 ^ (bits + 6 - 8)) = UInt8.ofNat ((m * 64 + k) / 2 ^ (bits + 6 - 8)) := by
              have : (n * 64 + k) % 16777216 / 2 ^ (bits + 6 - 8) % 256 = (m * 64 + k) / 2 ^ (bits + 6 - 8) % 256 := by
                rcases hcase with rfl | rfl | rfl <;> simp only [Nat.reduceAdd, Nat.reduceSub, Nat.reducePow, Nat.div_one] at hm ⊢ <;> omega
              exact UInt8.toNat_inj.1 (by simpa using this)
            rw [← e2]
            exact ref_dec r _ _ _ _ o (by omega) (by omega) (Nat.mod_lt _ (by decide)) e1 h
          · rw [if_neg h8] at h
            rw [if_neg h8]
            have hb0 : bits = 0 := by omega
            subst hb0
            have hm0 : m = 0 := by rw [← hm]; exact Nat.mod_one n
            subst hm0
            refine ref_dec r _ _ _ _ o (by omega) (by omega) (Nat.mod_lt _ (by decide)) ?_ h
            simp only [Nat.reduceAdd, Nat.reducePow]
            omega
theorem ref_none : ∀ (s : List UInt8) (n bits : Nat) (out : List UInt8), refDec s n bits out = none → ∃ c ∈ s, c ≠ 61 ∧ c ≠ 10 ∧ idxOf c = none
  | [], _, _, _, h => by rw [refDec] at h; cases h
  | c :: r, n, bits, out, h => by
    rw [refDec] at h
    by_cases h61 : c = 61
    · rw [if_pos h61] at h; cases h
    · rw [if_neg h61] at h
      by_cases h10 : c = 10
      · rw [if_pos h10] at h
        obtain ⟨d, hd, q⟩ := ref_none r _ _ _ h
        exact ⟨d, List.mem_cons_of_mem _ hd, q⟩
      · rw [if_neg h10] at h
        cases hi : idxOf c with
        | none => exact ⟨c, List.mem_cons_self .., h61, h10, hi⟩
        | some k =>
          rw [hi] at h
          simp only at h
          split at h
          · obtain ⟨d, hd, q⟩ := ref_none r _ _ _ h
            exact ⟨d, List.mem_cons_of_mem _ hd, q⟩
          · obtain ⟨d, hd, q⟩ := ref_none r _ _ _ h
            exact ⟨d, List.mem_cons_of_mem _ hd, q⟩
theorem enc_chars : ∀ (k : Nat) (l : List UInt8) (n : Nat), l.length ≤ k → ∀ c ∈ encGo l n, c = 61 ∨ c = 10 ∨ idxOf c ≠ none
  | _, [], n, _, c, hc => by rw [encGo] at hc; cases hc
  | 0, _ :: _, _, h, _, _ => by simp at h
  | k + 1, x :: r, n, h, c, hc => by
    rw [encGo] at hc
    rcases List.mem_append.1 hc with hc | hc
    · rcases List.mem_append.1 hc with hc | hc
      · unfold fourOf at hc
        obtain ⟨i, _, rfl⟩ := List.mem_map.1 hc
        split
        · exact .inl rfl
        · exact .inr (.inr (by rw [idx_letter _ (Nat.mod_lt _ (by decide))]; simp))
      · split at hc
        · exact .inr (.inl (List.mem_singleton.1 hc))
        · cases hc
    · exact enc_chars k _ _ (by simp at h ⊢; omega) c hc
/-- what the document reads of a text is what the program reads -/
theorem read_same (s : List UInt8) : match refDec s 0 0 [] with
    | none => encL (decL s) ≠ s
    | some o => o = decL s := by
  cases h : refDec s 0 0 [] with
  | none =>
    obtain ⟨c, hc, h1, h2, h3⟩ := ref_none _ _ _ _ h
    intro e
    rw [← e] at hc
    rcases enc_chars _ _ _ (Nat.le_refl _) c hc with q | q | q
    · exact h1 q
    · exact h2 q
    · exact q h3
  | some o => exact (ref_dec s 0 0 0 [] o (by decide) (by decide) (by decide) rfl h).symm
end Go.Proofs.YtcgjegjnodopoaaDoor
