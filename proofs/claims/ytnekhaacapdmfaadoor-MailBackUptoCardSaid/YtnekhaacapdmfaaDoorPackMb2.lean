/-
  PARTS: BYTES AS LETTERS, in plain Lean: what is written is read; 57 bytes more ahead are a line more ahead.; MAILS AS TEXTS, in plain Lean (chapter 12): one mail.; THE WALKS of mail.word and of the document's word; a mail as cells.; A SLICE THAT THE CALL ITSELF BUILDS BY append ('Own'): kept, pushed onto, read. No program in sight.; A ROW OF A BLOCK's CELLS, as a function of the place; a row of numbers that make([]int, n) has made.; WHICH IS WHICH, in plain Lean: what the program chooses is what the document chooses, and none is cheaper. Rows of costs; `left`: which columns are left.; COLUMNS LEFT AS BITS of a small number.; THE LEAST COSTS BY SETS OF COLUMNS, in plain Lean: bounds; how a set's is come by.; BITS OF SMALL NUMBERS at int. No program in sight.; THE WALK of base64.four.
-/
import Derived.Test.YtnekhaacapdmfaaDoorPackMb1
import Init
import Derived.Laws.Entries
namespace Go.Proofs.YtnekhaacapdmfaaDoor

/-- the 64 letters -/
def letters : List UInt8 := [65, 66, 67, 68, 69, 70, 71, 72, 73, 74, 75, 76, 77, 78, 79, 80, 81, 82, 83, 84, 85, 86, 87, 88, 89, 90, 97, 98, 99, 100, 101, 102, 103, 104, 105, 106, 107, 108, 109, 110, 111, 112, 113, 114, 115, 116, 117, 118, 119, 120, 121, 122, 48, 49, 50, 51, 52, 53, 54, 55, 56, 57, 43, 47]
def letterAt (k : Nat) : UInt8 := letters.getD k 0
def idxOf (c : UInt8) : Option Nat := letters.findIdx? (· == c)
/-- up to three bytes as a number -/
def num3 : List UInt8 → Nat
  | [] => 0
  | [a] => a.toNat * 65536
  | [a, b] => a.toNat * 65536 + b.toNat * 256
  | a :: b :: c :: _ => a.toNat * 65536 + b.toNat * 256 + c.toNat
/-- four letters of at most three bytes -/
def fourOf (l : List UInt8) : List UInt8 :=
  (List.range 4).map fun i => if l.length < i then 61 else letterAt (num3 l / 2 ^ (18 - 6 * i) % 64)
/-- the letters of some bytes, so many of them written before -/
def encGo : List UInt8 → Nat → List UInt8
  | [], _ => []
  | x :: r, n => fourOf ((x :: r).take 3) ++ (if (n + 4) % 76 = 0 ∨ (x :: r).drop 3 = [] then [10] else []) ++ encGo ((x :: r).drop 3) (n + 4)
termination_by l _ => l.length
decreasing_by simp; omega
def encL (l : List UInt8) : List UInt8 := encGo l 0
/-- letter by letter: bytes that come of them -/
def decGo : List UInt8 → Nat → Nat → List UInt8 → List UInt8
  | [], _, _, out => out
  | c :: r, n, bits, out => match idxOf c with
    | none => out
    | some k => if 8 ≤ bits + 6 then decGo r ((n * 64 + k) % 2 ^ (bits + 6 - 8)) (bits + 6 - 8) (out ++ [UInt8.ofNat ((n * 64 + k) / 2 ^ (bits + 6 - 8))]) else decGo r (n * 64 + k) (bits + 6) out
def decL (s : List UInt8) : List UInt8 := decGo (s.filter (· ≠ 10)) 0 0 []

theorem idx_letter : ∀ k, k < 64 → idxOf (letterAt k) = some k := by decide +kernel
theorem letter_nl : ∀ k, k < 64 → letterAt k ≠ 10 := by decide +kernel
theorem four_nl (l : List UInt8) : ∀ c ∈ fourOf l, c ≠ 10 := by
  intro c hc
  unfold fourOf at hc
  obtain ⟨i, _, rfl⟩ := List.mem_map.1 hc
  split
  · decide
  · exact letter_nl _ (Nat.mod_lt _ (by decide))
theorem four_len (l : List UInt8) : (fourOf l).length = 4 := by simp [fourOf]
theorem num3_0 (a b c : UInt8) : num3 [a, b, c] = a.toNat * 65536 + b.toNat * 256 + c.toNat := rfl
theorem four_3 (a b c : UInt8) : fourOf [a, b, c] = [letterAt (a.toNat / 4), letterAt (a.toNat % 4 * 16 + b.toNat / 16), letterAt (b.toNat % 16 * 4 + c.toNat / 64), letterAt (c.toNat % 64)] := by
  have ha := a.toNat_lt
  have hb := b.toNat_lt
  have hc := c.toNat_lt
  have e0 : (a.toNat * 65536 + b.toNat * 256 + c.toNat) / 262144 % 64 = a.toNat / 4 := by omega
  have e1 : (a.toNat * 65536 + b.toNat * 256 + c.toNat) / 4096 % 64 = a.toNat % 4 * 16 + b.toNat / 16 := by omega
  have e2 : (a.toNat * 65536 + b.toNat * 256 + c.toNat) / 64 % 64 = b.toNat % 16 * 4 + c.toNat / 64 := by omega
  have e3 : (a.toNat * 65536 + b.toNat * 256 + c.toNat) / 1 % 64 = c.toNat % 64 := by omega
  show [letterAt ((a.toNat * 65536 + b.toNat * 256 + c.toNat) / 262144 % 64), letterAt ((a.toNat * 65536 + b.toNat * 256 + c.toNat) / 4096 % 64), letterAt ((a.toNat * 65536 + b.toNat * 256 + c.toNat) / 64 % 64), letterAt ((a.toNat * 65536 + b.toNat * 256 + c.toNat) / 1 % 64)] = _
  rw [e0, e1, e2, e3]
theorem four_2 (a b : UInt8) : fourOf [a, b] = [letterAt (a.toNat / 4), letterAt (a.toNat % 4 * 16 + b.toNat / 16), letterAt (b.toNat % 16 * 4), 61] := by
  have ha := a.toNat_lt
  have hb := b.toNat_lt
  have e0 : (a.toNat * 65536 + b.toNat * 256) / 262144 % 64 = a.toNat / 4 := by omega
  have e1 : (a.toNat * 65536 + b.toNat * 256) / 4096 % 64 = a.toNat % 4 * 16 + b.toNat / 16 := by omega
  have e2 : (a.toNat * 65536 + b.toNat * 256) / 64 % 64 = b.toNat % 16 * 4 := by omega
  show [letterAt ((a.toNat * 65536 + b.toNat * 256) / 262144 % 64), letterAt ((a.toNat * 65536 + b.toNat * 256) / 4096 % 64), letterAt ((a.toNat * 65536 + b.toNat * 256) / 64 % 64), 61] = _
  rw [e0, e1, e2]
theorem four_1 (a : UInt8) : fourOf [a] = [letterAt (a.toNat / 4), letterAt (a.toNat % 4 * 16), 61, 61] := by
  have ha := a.toNat_lt
  have e0 : (a.toNat * 65536) / 262144 % 64 = a.toNat / 4 := by omega
  have e1 : (a.toNat * 65536) / 4096 % 64 = a.toNat % 4 * 16 := by omega
  show [letterAt ((a.toNat * 65536) / 262144 % 64), letterAt ((a.toNat * 65536) / 4096 % 64), 61, 61] = _
  rw [e0, e1]
theorem dec_step {k n bits : Nat} (hk : k < 64) (r out : List UInt8) : decGo (letterAt k :: r) n bits out = if 8 ≤ bits + 6 then decGo r ((n * 64 + k) % 2 ^ (bits + 6 - 8)) (bits + 6 - 8) (out ++ [UInt8.ofNat ((n * 64 + k) / 2 ^ (bits + 6 - 8))]) else decGo r (n * 64 + k) (bits + 6) out := by
  rw [decGo, idx_letter k hk]
theorem dec_stop (r : List UInt8) (n bits : Nat) (out : List UInt8) : decGo (61 :: r) n bits out = out := by
  rw [decGo, show idxOf 61 = none by decide +kernel]
theorem ofNat_is {a : UInt8} {n : Nat} (h : n = a.toNat) : UInt8.ofNat n = a := by rw [h]; simp
theorem dec_two (a : UInt8) {k : Nat} (hk : k < 16) (r out : List UInt8) : decGo (letterAt (a.toNat / 4) :: letterAt (a.toNat % 4 * 16 + k) :: r) 0 0 out = decGo r k 4 (out ++ [a]) := by
  have ha := a.toNat_lt
  rw [dec_step (by omega), if_neg (by decide), dec_step (by omega), if_pos (by decide)]
  show decGo r (((0 * 64 + a.toNat / 4) * 64 + (a.toNat % 4 * 16 + k)) % 16) 4 (out ++ [UInt8.ofNat (((0 * 64 + a.toNat / 4) * 64 + (a.toNat % 4 * 16 + k)) / 16)]) = _
  rw [show ((0 * 64 + a.toNat / 4) * 64 + (a.toNat % 4 * 16 + k)) % 16 = k by omega, ofNat_is (a := a) (by omega)]
theorem dec_three (b : UInt8) {k : Nat} (hk : k < 4) (r out : List UInt8) : decGo (letterAt (b.toNat % 16 * 4 + k) :: r) (b.toNat / 16) 4 out = decGo r k 2 (out ++ [b]) := by
  have hb := b.toNat_lt
  rw [dec_step (by omega), if_pos (by decide)]
  show decGo r ((b.toNat / 16 * 64 + (b.toNat % 16 * 4 + k)) % 4) 2 (out ++ [UInt8.ofNat ((b.toNat / 16 * 64 + (b.toNat % 16 * 4 + k)) / 4)]) = _
  rw [show (b.toNat / 16 * 64 + (b.toNat % 16 * 4 + k)) % 4 = k by omega, ofNat_is (a := b) (by omega)]
theorem dec_four (c : UInt8) (r out : List UInt8) : decGo (letterAt (c.toNat % 64) :: r) (c.toNat / 64) 2 out = decGo r 0 0 (out ++ [c]) := by
  have hc := c.toNat_lt
  rw [dec_step (by omega), if_pos (by decide)]
  show decGo r ((c.toNat / 64 * 64 + c.toNat % 64) % 1) 0 (out ++ [UInt8.ofNat ((c.toNat / 64 * 64 + c.toNat % 64) / 1)]) = _
  rw [show (c.toNat / 64 * 64 + c.toNat % 64) % 1 = 0 by omega, ofNat_is (a := c) (by omega)]
theorem filter_four (l : List UInt8) : (fourOf l).filter (· ≠ 10) = fourOf l := List.filter_eq_self.2 fun c hc => by simpa using four_nl l c hc
theorem filter_nl (p : Prop) [Decidable p] : (if p then [(10 : UInt8)] else []).filter (· ≠ 10) = [] := by split <;> rfl
theorem dec_enc : ∀ (k : Nat) (l : List UInt8) (n : Nat) (out : List UInt8), l.length ≤ k → decGo ((encGo l n).filter (· ≠ 10)) 0 0 out = out ++ l
  | _, [], n, out, _ => by rw [encGo]; simp [decGo]
  | 0, _ :: _, _, _, h => by simp at h
  | _ + 1, [a], n, out, _ => by
    have ha := a.toNat_lt
    rw [encGo]
    simp only [List.take_succ_cons, List.take_nil, List.drop_succ_cons, List.drop_nil, List.filter_append, filter_four, filter_nl, List.append_nil]
    rw [encGo, four_1, show a.toNat % 4 * 16 = a.toNat % 4 * 16 + 0 by omega]
    simp only [List.filter_nil, List.append_nil]
    rw [dec_two a (by decide), dec_stop]
  | _ + 1, [a, b], n, out, _ => by
    have ha := a.toNat_lt
    have hb := b.toNat_lt
    rw [encGo]
    simp only [List.take_succ_cons, List.take_nil, List.drop_succ_cons, List.drop_nil, List.filter_append, filter_four, filter_nl, List.append_nil]
    rw [encGo, four_2, show b.toNat % 16 * 4 = b.toNat % 16 * 4 + 0 by omega]
    simp only [List.filter_nil, List.append_nil]
    rw [dec_two a (by omega), dec_three b (by decide), dec_stop]
    simp
  | k + 1, a :: b :: c :: r, n, out, h => by
    have ha := a.toNat_lt
    have hb := b.toNat_lt
    have hc := c.toNat_lt
    rw [encGo]
    simp only [List.take_succ_cons, List.take_zero, List.drop_succ_cons, List.drop_zero, List.filter_append, filter_four, filter_nl, List.append_nil]
    rw [four_3]
    simp only [List.cons_append, List.nil_append]
    rw [dec_two a (by omega), dec_three b (by omega), dec_four c, dec_enc k r (n + 4) _ (by simp at h; omega)]
    simp
/-- what is written is read -/
theorem dec_encL (l : List UInt8) : decL (encL l) = l := by
  unfold decL encL
  rw [dec_enc l.length l 0 [] (Nat.le_refl _), List.nil_append]
/-! ### lines -/
theorem enc_mod : ∀ (k : Nat) (l : List UInt8) (n m : Nat), l.length ≤ k → n % 76 = m % 76 → encGo l n = encGo l m
  | _, [], n, m, _, _ => by rw [encGo, encGo]
  | 0, _ :: _, _, _, h, _ => by simp at h
  | k + 1, x :: r, n, m, h, e => by
    rw [encGo, encGo]
    have e2 : (n + 4) % 76 = (m + 4) % 76 := by omega
    rw [enc_mod k ((x :: r).drop 3) (n + 4) (m + 4) (by simp at h ⊢; omega) e2, e2]
/-- so many groups of three ahead, and more behind -/
theorem enc_ahead : ∀ (k : Nat) (m : List UInt8) (b : List UInt8) (n : Nat), m.length = 3 * k → b ≠ [] → n + 4 * k ≤ 76 → ∃ s, encGo (m ++ b) n = s ++ (if n + 4 * k = 76 ∧ 0 < k then [10] else []) ++ encGo b (n + 4 * k) ∧ (0 < k → encGo m n = s ++ [10])
  | 0, m, b, n, h, _, _ => by
    have : m = [] := List.eq_nil_of_length_eq_zero h
    subst this
    exact ⟨[], by simp, fun h => absurd h (by decide)⟩
  | k + 1, m, b, n, h, hb, hn => by
    match m, h with
    | x :: y :: z :: r, h =>
      have hr : r.length = 3 * k := by simp at h; omega
      obtain ⟨s, h1, h2⟩ := enc_ahead k r b (n + 4) hr hb (by omega)
      have e1 : ((x :: y :: z :: r) ++ b).take 3 = [x, y, z] := rfl
      have e2 : ((x :: y :: z :: r) ++ b).drop 3 = r ++ b := rfl
      have e3 : (x :: y :: z :: r).take 3 = [x, y, z] := rfl
      have e4 : (x :: y :: z :: r).drop 3 = r := rfl
      have hne : r ++ b ≠ [] := by simp [hb]
      rw [List.cons_append, encGo, encGo]
      rw [show (x :: (y :: z :: r ++ b)) = (x :: y :: z :: r) ++ b from rfl, e1, e2, e3, e4, h1]
      by_cases hk : k = 0
      · subst hk
        have hr0 : r = [] := List.eq_nil_of_length_eq_zero hr
        subst hr0
        have hs : s = [] := by
          have := congrArg List.length h1
          simp at this
          exact this
        subst hs
        refine ⟨fourOf [x, y, z], ?_, fun _ => by rw [encGo, if_pos (.inr rfl)]; simp⟩
        by_cases h76 : n + 4 = 76
        · rw [if_pos (.inl (by rw [h76])), if_neg (by simp), if_pos ⟨by omega, by decide⟩]; simp
        · rw [if_neg (by rintro (h | h); · omega
                         · exact hne h), if_neg (by simp), if_neg (by rintro ⟨h, _⟩; omega)]; simp
      · have hn4 : ¬ (n + 4) % 76 = 0 := by omega
        have hrn : r ≠ [] := fun e => by rw [e] at hr; simp at hr; omega
        rw [if_neg (by rintro (h | h); · exact hn4 h
                       · exact hne h)]
        refine ⟨fourOf [x, y, z] ++ s, ?_, fun _ => ?_⟩
        · have e5 : n + 4 + 4 * k = n + 4 * (k + 1) := by omega
          rw [e5]
          have e6 : (n + 4 * (k + 1) = 76 ∧ 0 < k) ↔ (n + 4 * (k + 1) = 76 ∧ 0 < k + 1) := by omega
          simp only [e6, List.append_assoc, List.nil_append]
        · rw [if_neg (by rintro (h | h); · exact hn4 h
                         · exact hrn h), h2 (by omega)]
          simp
/-- 57 bytes more ahead are a line more ahead -/
theorem enc_line (m b : List UInt8) (h : m.length = 57) : encL (m ++ b) = encL m ++ encL b := by
  unfold encL
  by_cases hb : b = []
  · subst hb
    rw [List.append_nil, show encGo [] 0 = [] by rw [encGo], List.append_nil]
  · obtain ⟨s, h1, h2⟩ := enc_ahead 19 m b 0 (by omega) hb (by omega)
    rw [h1, h2 (by decide), enc_mod b.length b (0 + 4 * 19) 0 (Nat.le_refl _) (by decide)]
    simp
end Go.Proofs.YtnekhaacapdmfaaDoor
namespace Go.Proofs.YtnekhaacapdmfaaDoor

def wordB (s : List UInt8) : Bool := !(s == []) && decide (s.length ≤ 40) && s.all fun c => decide (32 ≤ c.toNat) && decide (c.toNat ≤ 126)
def mailFault (m : Mail) : Int :=
  if wordB m.sender.data.toList = false ∨ wordB m.subject.data.toList = false ∨ wordB m.ident.data.toList = false ∨ 60 ∈ m.ident.data.toList ∨ 62 ∈ m.ident.data.toList then 5
  else if 40000 < m.body.length then 3 else 0
def fromW : List UInt8 := [70, 114, 111, 109, 58, 32]
def subjW : List UInt8 := [83, 117, 98, 106, 101, 99, 116, 58, 32]
def idW : List UInt8 := [77, 101, 115, 115, 97, 103, 101, 45, 73, 68, 58, 32, 60]
def codW : List UInt8 := [67, 111, 110, 116, 101, 110, 116, 45, 84, 114, 97, 110, 115, 102, 101, 114, 45, 69, 110, 99, 111, 100, 105, 110, 103, 58, 32, 98, 97, 115, 101, 54, 52]
def mailText (m : Mail) : List UInt8 :=
  (fromW ++ m.sender.data.toList) ++ [10] ++ ((subjW ++ m.subject.data.toList) ++ [10] ++ ((idW ++ (m.ident.data.toList ++ [62])) ++ [10] ++ (codW ++ [10] ++ ([] ++ [10] ++ encL m.body))))
/-- so many cuts at most -/
def splitN : Nat → List UInt8 → List (List UInt8)
  | 0, s => [s]
  | k + 1, s => match cutSub [10] s with
    | none => [s]
    | some (a, b) => a :: splitN k b
def fieldL (p q s : List UInt8) : List UInt8 := (dropSuf q ((dropPre p s).getD s)).getD ((dropPre p s).getD s)
def parseM (s : List UInt8) : Option Mail := match splitN 5 s with
  | [a, b, c, _, _, z] => if encL (decL z) = z ∧ (decL z).length ≤ 40000 then
      if mailFault ⟨toB (fieldL fromW [] a), toB (fieldL subjW [] b), toB (fieldL idW [62] c), decL z⟩ = 0 ∧ mailText ⟨toB (fieldL fromW [] a), toB (fieldL subjW [] b), toB (fieldL idW [62] c), decL z⟩ = s then
        some ⟨toB (fieldL fromW [] a), toB (fieldL subjW [] b), toB (fieldL idW [62] c), decL z⟩ else none
      else none
  | _ => none
theorem split_next {a : List UInt8} (k : Nat) (b : List UInt8) (h : ∀ c ∈ a, c ≠ 10) : splitN (k + 1) (a ++ [10] ++ b) = a :: splitN k b := by
  rw [splitN, cut_at (x := 10) (t := []) b h]
theorem word_nl {s : List UInt8} (h : wordB s = true) : ∀ c ∈ s, c ≠ 10 := fun c hc e => by
  unfold wordB at h
  rw [Bool.and_eq_true] at h
  have := List.all_eq_true.1 h.2 c hc
  rw [e] at this
  exact absurd this (by decide)
theorem field_back (p q r : List UInt8) : fieldL p q (p ++ (r ++ q)) = r := by
  unfold fieldL
  rw [pre_app]
  show (dropSuf q (r ++ q)).getD (r ++ q) = r
  rw [suf_app]; rfl
/-- what is printed is read -/
theorem mail_back {m : Mail} (h : mailFault m = 0) : parseM (mailText m) = some m := by
  have h0 := h
  unfold mailFault at h
  by_cases h1 : wordB m.sender.data.toList = false ∨ wordB m.subject.data.toList = false ∨ wordB m.ident.data.toList = false ∨ 60 ∈ m.ident.data.toList ∨ 62 ∈ m.ident.data.toList
  · rw [if_pos h1] at h; cases h
  · rw [if_neg h1] at h
    by_cases h2 : 40000 < m.body.length
    · rw [if_pos h2] at h; cases h
    · have w1 : wordB m.sender.data.toList = true := by
        cases e : wordB m.sender.data.toList with
        | true => rfl
        | false => exact absurd (.inl e) h1
      have w2 : wordB m.subject.data.toList = true := by
        cases e : wordB m.subject.data.toList with
        | true => rfl
        | false => exact absurd (.inr (.inl e)) h1
      have w3 : wordB m.ident.data.toList = true := by
        cases e : wordB m.ident.data.toList with
        | true => rfl
        | false => exact absurd (.inr (.inr (.inl e))) h1
      have join : ∀ {a b : List UInt8}, (∀ c ∈ a, c ≠ 10) → (∀ c ∈ b, c ≠ 10) → ∀ c ∈ a ++ b, c ≠ 10 := fun ha hb c hc => by
        rcases List.mem_append.1 hc with q | q
        · exact ha c q
        · exact hb c q
      have es : splitN 5 (mailText m) = [fromW ++ m.sender.data.toList, subjW ++ m.subject.data.toList, idW ++ (m.ident.data.toList ++ [62]), codW, [], encL m.body] := by
        unfold mailText
        rw [split_next 4 _ (join (by decide) (word_nl w1)), split_next 3 _ (join (by decide) (word_nl w2)), split_next 2 _ (join (by decide) (join (word_nl w3) (by decide))), split_next 1 _ (by decide), split_next 0 _ (by simp), splitN]
      have f1 : fieldL fromW [] (fromW ++ m.sender.data.toList) = m.sender.data.toList := by
        have := field_back fromW [] m.sender.data.toList
        rwa [List.append_nil] at this
      have f2 : fieldL subjW [] (subjW ++ m.subject.data.toList) = m.subject.data.toList := by
        have := field_back subjW [] m.subject.data.toList
        rwa [List.append_nil] at this
      unfold parseM
      rw [es]
      simp only
      rw [f1, f2, field_back, dec_encL, toB_of, toB_of, toB_of, if_pos ⟨rfl, by omega⟩, if_pos ⟨h0, rfl⟩]
/-- what is read is printed so -/
theorem mail_some {s : List UInt8} {m : Mail} (h : parseM s = some m) : mailText m = s ∧ mailFault m = 0 := by
  unfold parseM at h
  split at h
  · split at h
    · split at h
      · rename_i q
        injection h with h
        subst h
        exact ⟨q.2, q.1⟩
      · cases h
    · cases h
  · cases h
end Go.Proofs.YtnekhaacapdmfaaDoor
namespace Go.Proofs.YtnekhaacapdmfaaDoor
open Go.RowKit

theorem elems_mail {w : World} {O : Nat → Prop} {a : Option Addr} {l : List Mail} (h : Elems w O a l) {i : Nat} {x : Mail} (hx : l[i]? = some x) :
    ∃ b off v, a = some ⟨b, off, none⟩ ∧ ¬ O b ∧ b < w.heap.size ∧ w.cell? ⟨b, off + i * 4, none⟩ = some (.string x.sender) ∧ w.cell? ⟨b, off + i * 4 + 1, none⟩ = some (.string x.subject) ∧ w.cell? ⟨b, off + i * 4 + 2, none⟩ = some (.string x.ident) ∧ w.cell? ⟨b, off + i * 4 + 3, none⟩ = some v ∧ x.sender.size ≤ maxLen ∧ x.subject.size ≤ maxLen ∧ x.ident.size ≤ maxLen ∧ Rdv w O v x.body := by
  obtain ⟨b, off, es, ha, hb, hcs, v, rfl, s1, s2, s3, hv⟩ := h i x hx
  refine ⟨b, off, v, ha, hb, hcs.lt (by simp), ?_, ?_, ?_, ?_, s1, s2, s3, hv⟩
  · simpa [Dat.n] using hcs 0 _ rfl
  · simpa [Dat.n] using hcs 1 _ rfl
  · simpa [Dat.n] using hcs 2 _ rfl
  · simpa [Dat.n] using hcs 3 _ rfl
def okChar (c : UInt8) : Bool := decide (32 ≤ c.toNat) && decide (c.toNat ≤ 126)
theorem wordB_eq (s : List UInt8) : wordB s = (!(s == []) && decide (s.length ≤ 40) && s.all okChar) := rfl

set_option maxHeartbeats 1000000 in
set_option maxRecDepth 100000 in
theorem mail_word_any (s : ByteArray) (w : World) (hs : s.size ≤ maxLen) :
    Calls Tryd.prog 36 #[.string s] w fun e w' => e = .returned (.bool (wordB s.data.toList)) ∧ w = w' := by
  unfold maxLen at hs
  by_cases h0 : s.size = 0
  · have e0 : s.data.toList = [] := List.eq_nil_of_length_eq_zero (by rw [← Lib.size_eq]; exact h0)
    have HW : Hid (wordB s.data.toList = false) := by rw [Hid, e0]; rfl
    have te : s.toList.isEmpty = true := by rw [Lib.toList_data, e0]; rfl
    clear e0
    have tl : decide ((s.size : Int) < 1) = true := decide_eq_true (by omega)
    go_enter Tryd.func36, Tryd.ntmps36
    go_wp2_with fail
    go_ret
    exact ⟨by rw [HW.out]; rfl, rfl⟩
  · by_cases h40 : 40 < s.size
    · have HW : Hid (wordB s.data.toList = false) := by
        rw [Hid, wordB_eq, decide_eq_false (by rw [← Lib.size_eq]; omega : ¬ s.data.toList.length ≤ 40)]; simp
      have te : s.toList.isEmpty = false := by
        rw [Lib.toList_data]
        cases e : s.data.toList.isEmpty with
        | false => rfl
        | true => exact absurd (by rw [Lib.size_eq, List.isEmpty_iff.1 e]; rfl) h0
      have tl : decide ((s.size : Int) < 1) = false := decide_eq_false (by omega)
      have t4 : decide ((40 : Int) < (s.size : Int)) = true := decide_eq_true (by omega)
      go_enter Tryd.func36, Tryd.ntmps36
      go_wp2_with fail
      go_ret
      exact ⟨by rw [HW.out]; rfl, rfl⟩
    · have HW : Hid (wordB s.data.toList = s.data.toList.all okChar) := by
        rw [Hid, wordB_eq, decide_eq_true (by rw [← Lib.size_eq]; omega : s.data.toList.length ≤ 40)]
        have : (s.data.toList == []) = false := by
          simp only [beq_eq_false_iff_ne, ne_eq]
          intro e
          exact h0 (by rw [Lib.size_eq, e]; rfl)
        rw [this]; simp
      have te : s.toList.isEmpty = false := by
        rw [Lib.toList_data]
        cases e : s.data.toList.isEmpty with
        | false => rfl
        | true => exact absurd (by rw [Lib.size_eq, List.isEmpty_iff.1 e]; rfl) h0
      have tl : decide ((s.size : Int) < 1) = false := decide_eq_false (by omega)
      have t4 : decide ((40 : Int) < (s.size : Int)) = false := decide_eq_false (by omega)
      go_enter Tryd.func36, Tryd.ntmps36
      go_wp2_with fail
      go_loop [13] (fun i => ∃ k : Nat, k ≤ s.size ∧ i = .int .i64 k ∧ Hid ((s.data.toList.drop k).all okChar = s.data.toList.all okChar)) (fun i => s.size - (intOf i).toNat)
      case atStart => exact ⟨0, Nat.zero_le _, rfl, rfl⟩
      case round =>
        obtain ⟨k, hk, rfl, hf⟩ := hrel
        by_cases hlt : k < s.size
        · have hd : Hid (s.data.toList.drop k = s[k] :: s.data.toList.drop (k + 1)) := by
            rw [Hid]
            exact drop_eq (by rw [Array.getElem?_toList, Array.getElem?_eq_getElem hlt]; rfl)
          obtain ⟨c, hc⟩ : ∃ c, s[k] = c := ⟨_, rfl⟩
          rw [hc] at hd
          by_cases b1 : c.toNat < 32
          · have HF : Hid (s.data.toList.all okChar = false) := by
              rw [Hid, ← hf.out, hd.out, List.all_cons, okChar, decide_eq_false (by omega : ¬ 32 ≤ c.toNat)]; rfl
            have u1 : decide ((c.toNat : Int) < 32) = true := decide_eq_true (by omega)
            clear hf hd b1
            go_wp2_with fail
            go_ret
            exact ⟨by rw [HW.out, HF.out]; rfl, rfl⟩
          · by_cases b2 : 126 < c.toNat
            · have HF : Hid (s.data.toList.all okChar = false) := by
                rw [Hid, ← hf.out, hd.out, List.all_cons, okChar, decide_eq_false (by omega : ¬ c.toNat ≤ 126), Bool.and_false]; rfl
              have u1 : decide ((c.toNat : Int) < 32) = false := decide_eq_false (by omega)
              have u2 : decide ((126 : Int) < (c.toNat : Int)) = true := decide_eq_true (by omega)
              clear hf hd b1 b2
              go_wp2_with fail
              go_ret
              exact ⟨by rw [HW.out, HF.out]; rfl, rfl⟩
            · have HF : Hid ((s.data.toList.drop (k + 1)).all okChar = s.data.toList.all okChar) := by
                rw [Hid, ← hf.out, hd.out, List.all_cons, okChar, decide_eq_true (by omega : 32 ≤ c.toNat), decide_eq_true (by omega : c.toNat ≤ 126)]; rfl
              have u1 : decide ((c.toNat : Int) < 32) = false := decide_eq_false (by omega)
              have u2 : decide ((126 : Int) < (c.toNat : Int)) = false := decide_eq_false (by omega)
              clear hf hd b1 b2
              go_wp2_with fail
              go_round
              case rel => exact ⟨k + 1, by omega, by go_num, HF.out⟩
              case measure => simp [intOf]; omega
        · have HF : Hid (s.data.toList.all okChar = true) := by
            rw [Hid, ← hf.out, List.drop_of_length_le (by rw [← Lib.size_eq]; omega)]; rfl
          go_wp2_with fail
          go_ret
          exact ⟨by rw [HW.out, HF.out]; rfl, rfl⟩
set_option maxHeartbeats 1000000 in
set_option maxRecDepth 100000 in
theorem ref_word_any (s : ByteArray) (w : World) (hs : s.size ≤ maxLen) :
    Calls Tryd.prog 26 #[.string s, .int .i64 40] w fun e w' => e = .returned (.bool (wordB s.data.toList)) ∧ w = w' := by
  unfold maxLen at hs
  by_cases h0 : s.size = 0
  · have e0 : s.data.toList = [] := List.eq_nil_of_length_eq_zero (by rw [← Lib.size_eq]; exact h0)
    have HW : Hid (wordB s.data.toList = false) := by rw [Hid, e0]; rfl
    have te : s.toList.isEmpty = true := by rw [Lib.toList_data, e0]; rfl
    clear e0
    have tl : decide ((s.size : Int) < 1) = true := decide_eq_true (by omega)
    go_enter Tryd.func26, Tryd.ntmps26
    go_wp2_with fail
    go_ret
    exact ⟨by rw [HW.out]; rfl, rfl⟩
  · by_cases h40 : 40 < s.size
    · have HW : Hid (wordB s.data.toList = false) := by
        rw [Hid, wordB_eq, decide_eq_false (by rw [← Lib.size_eq]; omega : ¬ s.data.toList.length ≤ 40)]; simp
      have te : s.toList.isEmpty = false := by
        rw [Lib.toList_data]
        cases e : s.data.toList.isEmpty with
        | false => rfl
        | true => exact absurd (by rw [Lib.size_eq, List.isEmpty_iff.1 e]; rfl) h0
      have tl : decide ((s.size : Int) < 1) = false := decide_eq_false (by omega)
      have t4 : decide ((40 : Int) < (s.size : Int)) = true := decide_eq_true (by omega)
      go_enter Tryd.func26, Tryd.ntmps26
      go_wp2_with fail
      go_ret
      exact ⟨by rw [HW.out]; rfl, rfl⟩
    · have HW : Hid (wordB s.data.toList = s.data.toList.all okChar) := by
        rw [Hid, wordB_eq, decide_eq_true (by rw [← Lib.size_eq]; omega : s.data.toList.length ≤ 40)]
        have : (s.data.toList == []) = false := by
          simp only [beq_eq_false_iff_ne, ne_eq]
          intro e
          exact h0 (by rw [Lib.size_eq, e]; rfl)
        rw [this]; simp
      have te : s.toList.isEmpty = false := by
        rw [Lib.toList_data]
        cases e : s.data.toList.isEmpty with
        | false => rfl
        | true => exact absurd (by rw [Lib.size_eq, List.isEmpty_iff.1 e]; rfl) h0
      have tl : decide ((s.size : Int) < 1) = false := decide_eq_false (by omega)
      have t4 : decide ((40 : Int) < (s.size : Int)) = false := decide_eq_false (by omega)
      go_enter Tryd.func26, Tryd.ntmps26
      go_wp2_with fail
      go_loop [5] (fun i => ∃ k : Nat, k ≤ s.size ∧ i = .int .i64 k ∧ Hid ((s.data.toList.drop k).all okChar = s.data.toList.all okChar)) (fun i => s.size - (intOf i).toNat)
      case atStart => exact ⟨0, Nat.zero_le _, rfl, rfl⟩
      case round =>
        obtain ⟨k, hk, rfl, hf⟩ := hrel
        by_cases hlt : k < s.size
        · have hd : Hid (s.data.toList.drop k = s[k] :: s.data.toList.drop (k + 1)) := by
            rw [Hid]
            exact drop_eq (by rw [Array.getElem?_toList, Array.getElem?_eq_getElem hlt]; rfl)
          obtain ⟨c, hc⟩ : ∃ c, s[k] = c := ⟨_, rfl⟩
          rw [hc] at hd
          by_cases b1 : c.toNat < 32
          · have HF : Hid (s.data.toList.all okChar = false) := by
              rw [Hid, ← hf.out, hd.out, List.all_cons, okChar, decide_eq_false (by omega : ¬ 32 ≤ c.toNat)]; rfl
            have u1 : decide ((c.toNat : Int) < 32) = true := decide_eq_true (by omega)
            clear hf hd b1
            go_wp2_with fail
            go_ret
            exact ⟨by rw [HW.out, HF.out]; rfl, rfl⟩
          · by_cases b2 : 126 < c.toNat
            · have HF : Hid (s.data.toList.all okChar = false) := by
                rw [Hid, ← hf.out, hd.out, List.all_cons, okChar, decide_eq_false (by omega : ¬ c.toNat ≤ 126), Bool.and_false]; rfl
              have u1 : decide ((c.toNat : Int) < 32) = false := decide_eq_false (by omega)
              have u2 : decide ((126 : Int) < (c.toNat : Int)) = true := decide_eq_true (by omega)
              clear hf hd b1 b2
              go_wp2_with fail
              go_ret
              exact ⟨by rw [HW.out, HF.out]; rfl, rfl⟩
            · have HF : Hid ((s.data.toList.drop (k + 1)).all okChar = s.data.toList.all okChar) := by
                rw [Hid, ← hf.out, hd.out, List.all_cons, okChar, decide_eq_true (by omega : 32 ≤ c.toNat), decide_eq_true (by omega : c.toNat ≤ 126)]; rfl
              have u1 : decide ((c.toNat : Int) < 32) = false := decide_eq_false (by omega)
              have u2 : decide ((126 : Int) < (c.toNat : Int)) = false := decide_eq_false (by omega)
              clear hf hd b1 b2
              go_wp2_with fail
              go_round
              case rel => exact ⟨k + 1, by omega, by go_num, HF.out⟩
              case measure => simp [intOf]; omega
        · have HF : Hid (s.data.toList.all okChar = true) := by
            rw [Hid, ← hf.out, List.drop_of_length_le (by rw [← Lib.size_eq]; omega)]; rfl
          go_wp2_with fail
          go_ret
          exact ⟨by rw [HW.out, HF.out]; rfl, rfl⟩
end Go.Proofs.YtnekhaacapdmfaaDoor
namespace Go.Proofs.YtnekhaacapdmfaaDoor
open Go.RowKit

theorem own_block_lt {α : Type} [Dat α] {e : TypeId} {w : World} {O : Nat → Prop} {v : Value} {l : List α} (h : Own e w O v l) : ∀ k, v.ownBlock = some k → k < w.heap.size := by
  obtain ⟨xs, h1, _⟩ := h
  exact fun k hk => (h1.lt k hk).2

theorem Own.keep {α : Type} [Dat α] {e : TypeId} {w w' : World} {O O' O'' : Nat → Prop} {v : Value} {l : List α} (h : Own e w O v l) (hc : Chg O' w w')
    (h1 : ∀ k, k < w.heap.size → O' k → O k) (h2 : ∀ k, k < w.heap.size → O'' k → O k) : Own e w' O'' v l := by
  obtain ⟨xs, hx, hb, hel⟩ := h
  have hlt := fun k hk => (hx.lt k hk).2
  refine ⟨xs, ?_, fun k hk ho => hb k hk (h2 k (hlt k hk) ho), ?_⟩
  · refine ⟨hx.1, ?_⟩
    rcases hx.2 with h | ⟨g, cap, cur, rfl, hg, hh, r⟩
    · exact .inl h
    · refine .inr ⟨g, cap, cur, rfl, hg, ?_, r⟩
      rw [hc.block g (hlt g rfl) (fun ho => hb g rfl (h1 g (hlt g rfl) ho))]
      exact hh
  · intro i x hi
    refine Dat.keep (hel i x hi) hc (fun k hk ho => .inl (h1 k hk ho)) ?_
    rintro k hk (ho | ho)
    · exact .inl (h2 k hk ho)
    · exact .inr ho
theorem Own.never {α : Type} [Dat α] {e : TypeId} {w w' : World} {O : Nat → Prop} {v : Value} {l : List α} (h : Own e w O v l) (hc : Chg Never w w') : Own e w' O v l :=
  h.keep hc (fun _ _ h => h.elim) (fun _ _ h => h)

/-- an owned slice reads as any other -/
theorem Own.rdv {α : Type} [Dat α] {e : TypeId} {w : World} {O : Nat → Prop} {v : Value} {l : List α} (h : Own e w O v l) : Rdv w O v l := by
  obtain ⟨xs, hx, hb, hel⟩ := h
  have hlen := hx.1
  rcases hx.2 with ⟨rfl, h0⟩ | ⟨g, cap, cur, rfl, hg, hh, hn, hm, hcs, htake⟩
  · have : l = [] := List.eq_nil_of_length_eq_zero h0
    subst this
    exact rdv_nil _ _
  · refine ⟨some ⟨g, 0, none⟩, cap, rfl, hn, hm, ?_⟩
    intro i x hi
    have hil := (List.getElem?_eq_some_iff.1 hi).1
    have hel' := hel i x hi
    have hel2 : Dat.rd w O _ x := Dat.keep hel' (Chg.refl Never w) (fun _ _ h => h.elim) (fun k _ ho => .inl ho)
    refine ⟨g, 0, _, rfl, hb g rfl, ?_, hel2⟩
    intro j u hj
    have hcell := World.ownsRow.cells hx (g := g) rfl (i * Dat.n α + j) u ?_
    · rw [← hcell]
      unfold Addr.add
      split <;> simp_all
    · rw [List.getElem?_take] at hj
      split at hj
      · rw [List.getElem?_drop] at hj; exact hj
      · cases hj

theorem append_block {P : Program} (w : World) (base : Nat) (t ty e : TypeId) (i : TypeInfo) (z : Value) (size bytes : Nat) (ht : P.underlying t = some (.slice e)) (hi : P.info? e = some i) (hz : i.zero = some z)
    (hsize : i.size = size) (hby : i.bytes = bytes)
    (v : Value) (n : Nat) (xs : List Value) (hown : w.ownsRow base e size v n xs)
    (a : Addr) (m c : Nat) (news : List Value) (hl : news.length = m * size) (hnews : ∀ j u, news[j]? = some u → w.cell? (a.add j) = some u) (h1 : ∀ u ∈ news, u.oneCell' = true)
    (h63 : n + m ≤ maxLen) (hbytes : (n + m) * bytes ≤ 140737488355328) (hm : m ≠ 0) {v' : Value} {w' : World} (hrun : (Builtin.append_ #[t, t] ty #[v, .slice (some a) m c]).run P w = .ok v' w') :
    ∃ k, v'.ownBlock = some k ∧ (v.ownBlock = some k ∨ k = w.heap.size) := by
  subst hsize
  subst hby
  have hsmall : n + m ≤ 9223372036854775807 := by simp only [maxLen] at h63; omega
  rcases hown.2 with ⟨rfl, rfl⟩ | ⟨g, cap, cur, rfl, hbg, hg, hnc, hcm, hcs, htake⟩
  · have hr := run_append_nil (P := P) w t ty e i z ht hi hz a m c news hl hnews (by omega) (by omega) (by have hb := hbytes; simp only [Nat.zero_add] at hb; omega)
    rw [hr] at hrun
    injection hrun with hv _
    subst hv
    exact ⟨_, rfl, .inr rfl⟩
  · by_cases hroom : n + m ≤ cap
    · have hfit : n * i.size + news.length ≤ cur.size := by rw [hl, hcs, ← Nat.add_mul]; exact Nat.mul_le_mul_right _ hroom
      have hr := run_append_room (P := P) w t ty e i ht hi g n cap cur hg a m c news hl hnews h1 hroom hfit
      rw [hr] at hrun
      injection hrun with hv _
      subst hv
      exact ⟨_, rfl, .inl rfl⟩
    · have holds : ∀ j u, xs[j]? = some u → w.cell? ((⟨g, 0, none⟩ : Addr).add j) = some u := hown.cells (g := g) rfl
      have hr := run_append_grow (P := P) w t ty e i z ht hi hz ⟨g, 0, none⟩ n cap xs hown.1 holds a m c news hl hnews (by omega) (by omega) (growslice_fits (by omega) hbytes)
      rw [hr] at hrun
      injection hrun with hv _
      subst hv
      exact ⟨_, rfl, .inr rfl⟩

/-- what a slice's element type asks of the program's table -/
structure ElemOk (P : Program) (t e : TypeId) (n : Nat) : Prop where
  ht : P.underlying t = some (.slice e)
  info : ∃ i z, P.info? e = some i ∧ i.zero = some z ∧ i.size = n ∧ z.cells.size = n ∧ i.bytes ≤ 128

theorem run_push {P : Program} {α : Type} [Dat α] {t ty e : TypeId} (hP : ElemOk P t e (Dat.n α)) {w0 : World} {O : Nat → Prop} {v : Value} {l : List α} {y : α} {es : List Value} (E' : TypeId)
    (hown : Own e w0 O v l) (hy : Dat.rd w0 (fun k => O k ∨ v.ownBlock = some k) es y) (hO : ∀ k, O k → k < w0.heap.size) (hlen : l.length ≤ 1000000000) :
    ∃ v' w', (Builtin.append_ #[t, t] ty #[v, .slice (some ⟨w0.heap.size, 0, none⟩) 1 1]).run P (w0.alloc (.cells es.toArray E')) = .ok v' w' ∧ Own e w' O v' (l ++ [y]) ∧ Chg (OwnB v) w0 w' ∧ (∃ k, v'.ownBlock = some k ∧ (v.ownBlock = some k ∨ w0.heap.size ≤ k)) := by
  obtain ⟨i, z, hi, hz, hsz, hzs, hby⟩ := hP.info
  have hlt := own_block_lt hown
  obtain ⟨xs, hx, hb, hel⟩ := id hown
  have hnl : es.length = 1 * Dat.n α := by rw [Dat.len hy]; omega
  have hpos := Dat.pos (α := α)
  have hcells : ∀ j u, es[j]? = some u → (w0.alloc (.cells es.toArray E')).cell? ((⟨w0.heap.size, 0, none⟩ : Addr).add j) = some u := by
    intro j u hj
    have e1 : (⟨w0.heap.size, 0, none⟩ : Addr).add j = ⟨w0.heap.size, j, none⟩ := by unfold Addr.add; split <;> simp_all
    rw [e1, World.cell?, heap_alloc_new]
    simpa using hj
  have hx' := hx.alloc (.cells es.toArray E')
  have hbound : (l.length + 1) * i.bytes ≤ 140737488355328 := by
    have := Nat.mul_le_mul (show l.length + 1 ≤ 1000000001 by omega) hby
    omega
  obtain ⟨v', w', hrun, hown', hgrow, hnil⟩ := run_append_own (P := P) (w0.alloc (.cells es.toArray E')) 0 t ty e i z (Dat.n α) i.bytes hP.ht hi hz hsz rfl hzs hpos v l.length xs hx'
    ⟨w0.heap.size, 0, none⟩ 1 1 es hnl hcells (Dat.one hy) (by unfold maxLen; omega) hbound (Nat.zero_le _)
  obtain ⟨kb, hkb, hkb'⟩ := append_block (P := P) (w0.alloc (.cells es.toArray E')) 0 t ty e i z (Dat.n α) i.bytes hP.ht hi hz hsz rfl v l.length xs hx'
    ⟨w0.heap.size, 0, none⟩ 1 1 es hnl hcells (Dat.one hy) (by unfold maxLen; omega) hbound (by omega) hrun
  have hkb2 : v.ownBlock = some kb ∨ w0.heap.size ≤ kb := by
    rcases hkb' with h | h
    · exact .inl h
    · right; rw [h]; simp
  have hc : Chg (OwnB v) w0 w' := ((Chg.refl (OwnB v) w0).alloc _).trans' (Chg.of_grown hgrow) (fun k _ hk => hk)
  refine ⟨v', w', hrun, ⟨xs ++ es, ?_, ?_, ?_⟩, hc, kb, hkb, hkb2⟩
  · simpa using hown'
  · intro k hk ho
    rw [hkb] at hk
    injection hk with hk
    subst hk
    rcases hkb2 with h | h
    · exact hb _ h ho
    · exact absurd (hO _ ho) (by omega)
  · have hsub : ∀ k, k < w0.heap.size → (O k ∨ v'.ownBlock = some k) → (O k ∨ v.ownBlock = some k) := by
      rintro k hk (h | h)
      · exact .inl h
      · rw [hkb] at h
        injection h with h
        subst h
        rcases hkb2 with h | h
        · exact .inr h
        · omega
    intro j x hj
    have hxl := hx.1
    rcases Nat.lt_or_ge j l.length with hjl | hjl
    · rw [List.getElem?_append_left hjl] at hj
      have h := Dat.keep (hel j x hj) hc (fun k _ hk => .inr hk) hsub
      have hle : j * Dat.n α + Dat.n α ≤ xs.length := by rw [hxl, ← Nat.succ_mul]; exact Nat.mul_le_mul_right _ hjl
      rw [List.drop_append_of_le_length (by omega), List.take_append_of_le_length (by rw [List.length_drop]; omega)]
      exact h
    · have e : j = l.length := by
        have := (List.getElem?_eq_some_iff.1 hj).1
        simp at this
        omega
      subst e
      simp at hj
      subst hj
      rw [← hxl, List.drop_left, List.take_of_length_le (by omega)]
      exact Dat.keep hy hc (fun k _ hk => .inr hk) hsub

/-- 'out = append(out, y)': y's cells have just been laid in a block of their own -/
theorem wpList_push {P : Program} {ops : Array Oper} {rest : List Oper} {o : Oper} {a : Act} {Q : Exit → Act → World → Prop} (hgd : o.guard = none) (s x : Operand) (t : TypeId)
    (ho : o.op = .call { callee := .builtin .append, args := #[s, x], argTypes := #[t, t] }) {α : Type} [Dat α] {e : TypeId} (hP : ElemOk P t e (Dat.n α)) {w0 : World} {O : Nat → Prop} {v : Value} {l : List α} {y : α} {es : List Value} {E' : TypeId} {B : Nat}
    (hs : a.eval s = v) (hx : a.eval x = .slice (some ⟨B, 0, none⟩) 1 1) (hB : B = w0.heap.size)
    (hown : Own e w0 O v l) (hy : Dat.rd w0 (fun k => O k ∨ v.ownBlock = some k) es y) (hO : ∀ k, O k → k < w0.heap.size) (hlen : l.length ≤ 1000000000)
    (h : ∀ v' w', Own e w' O v' (l ++ [y]) → Chg (OwnB v) w0 w' → (∃ k, v'.ownBlock = some k ∧ (v.ownBlock = some k ∨ w0.heap.size ≤ k)) → wpList P ops Q rest (a.put o.dst v') w') :
    wpList P ops Q (o :: rest) a (w0.alloc (.cells es.toArray E')) := by
  subst hB
  refine wpList_plain hgd fun K hK => ?_
  obtain ⟨v', w', hrun, h1, h2, h3⟩ := run_push (ty := o.type) hP E' hown hy hO hlen
  unfold Oper.wp execOp
  simp only [ho, resolve, invoke, builtin, Sem.run_bind, Sem.run_pure, Result.andThen_ok, List.map_toArray, List.map_cons, List.map_nil, hs, hx, hrun]
  exact hK _ _ (h v' w' h1 h2 h3)

theorem elemOk_of {P : Program} {t e : TypeId} {n b : Nat} {z : Value} (ht : P.underlying t = some (.slice e)) (h : (P.info? e).map (fun i => (i.zero, i.size, i.bytes)) = some (some z, n, b)) (hz : z.cells.size = n) (hb : b ≤ 128) : ElemOk P t e n := by
  obtain ⟨i, h1, h2, h3, h4⟩ := info_parts h
  exact ⟨ht, i, z, h1, h2, h3, hz, by omega⟩

/-- a step that may have changed the call's own row leaves what was there before the call -/
theorem own_step {α : Type} [Dat α] {e : TypeId} {w wr w' : World} {v : Value} {l : List α} (hc : Chg Never w wr) (hown : Own e wr (Old w.heap.size) v l) (hc' : Chg (OwnB v) wr w') : Chg Never w w' := by
  refine hc.trans' hc' ?_
  intro i hi ho
  obtain ⟨xs, _, hb, _⟩ := hown
  exact (hb i ho hi).elim
theorem old_lt {w wr : World} (hc : Chg Never w wr) : ∀ k, Old w.heap.size k → k < wr.heap.size := fun _ hk => Nat.lt_of_lt_of_le hk hc.size
end Go.Proofs.YtnekhaacapdmfaaDoor
namespace Go.Proofs.YtnekhaacapdmfaaDoor
open Go.RowKit

/-- the block B has so many cells of one kind: at each place what g says -/
def ValRow (e : TypeId) (B : Nat) (wr : World) (len : Nat) (g : Nat → Value) : Prop :=
  ∃ c : Array Value, wr.heap[B]? = some (.cells c e (0, 0)) ∧ c.size = len ∧ ∀ k, k < len → c[k]? = some (g k)
theorem ValRow.cell {e : TypeId} {B : Nat} {wr : World} {len : Nat} {g : Nat → Value} (h : ValRow e B wr len g) {k : Nat} (hk : k < len) : wr.cell? ⟨B, k, none⟩ = some (g k) := by
  obtain ⟨c, h1, h2, h3⟩ := h
  simp only [World.cell?, h1]
  exact h3 k hk
theorem ValRow.lt {e : TypeId} {B : Nat} {wr : World} {len : Nat} {g : Nat → Value} (h : ValRow e B wr len g) : B < wr.heap.size := by
  obtain ⟨c, h1, _⟩ := h
  exact (Array.getElem?_eq_some_iff.1 h1).1
theorem ValRow.free {e : TypeId} {B : Nat} {wr : World} {len : Nat} {g : Nat → Value} (h : ValRow e B wr len g) (k : Nat) : wr.frozen? ⟨B, k, none⟩ = false := by
  obtain ⟨c, h1, h2, h3⟩ := h
  simp [World.frozen?, h1]
theorem ValRow.keep {e : TypeId} {B : Nat} {wr w' : World} {len : Nat} {g : Nat → Value} {O : Nat → Prop} (h : ValRow e B wr len g) (hc : Chg O wr w') (hB : ¬ O B) : ValRow e B w' len g := by
  obtain ⟨c, h1, h2⟩ := h
  refine ⟨c, ?_, h2⟩
  rw [hc.block B (Array.getElem?_eq_some_iff.1 h1).1 hB]
  exact h1
theorem ValRow.set {e : TypeId} {B : Nat} {wr : World} {len : Nat} {f : Nat → Value} (h : ValRow e B wr len f) {k : Nat} (hk : k < len) (b : Value) :
    ValRow e B (wr.setCell ⟨B, k, none⟩ b) len (fun j => if j = k then b else f j) := by
  obtain ⟨c, h1, h2, h3⟩ := h
  refine ⟨c.setIfInBounds k b, ?_, by simpa using h2, ?_⟩
  · simp [World.setCell, Array.getElem?_modify, h1]
  · intro j hj
    show _ = some (if j = k then b else f j)
    rw [Array.getElem?_setIfInBounds]
    by_cases e : j = k
    · subst e; simp [h2, hj]
    · rw [if_neg (fun h => e h.symm), if_neg e]; exact h3 j hj
theorem ValRow.other {e : TypeId} {B : Nat} {wr : World} {len : Nat} {f : Nat → Value} (h : ValRow e B wr len f) {p : Addr} (hp : p.block ≠ B) (v : Value) : ValRow e B (wr.setCell p v) len f :=
  h.keep (O := fun k => k = p.block) ((Chg.refl (fun k => k = p.block) wr).setCell (p := p) (.inr rfl) v) (fun h => hp h.symm)
theorem ValRow.congr {e : TypeId} {B : Nat} {wr : World} {len : Nat} {f g : Nat → Value} (h : ValRow e B wr len f) (hg : ∀ k, k < len → g k = f k) : ValRow e B wr len g := by
  obtain ⟨c, h1, h2, h3⟩ := h
  exact ⟨c, h1, h2, fun k hk => by rw [hg k hk]; exact h3 k hk⟩
/-- what make([]T, n) has made, T of one cell -/
theorem valRow_made {e : TypeId} {z : Value} (hz : z.cells = #[z]) {w1 : World} {B len : Nat} (h : w1.ownsRow 0 e 1 (.slice (some ⟨B, 0, none⟩) len len) len (madeCells z.cells (len * 1)).toList) : ValRow e B w1 len fun _ => z := by
  obtain ⟨_, hx⟩ := h
  rcases hx with ⟨h, _⟩ | ⟨g, cap, cur, hv, _, hh, hn, hm, hcs, htake⟩
  · cases h
  · injection hv with hv1 _ hv3
    injection hv1 with hv1
    injection hv1 with hv1
    subst hv1 hv3
    refine ⟨cur, hh, by simpa using hcs, ?_⟩
    intro k hk
    have e : cur.toList[k]? = (cur.toList.take (len * 1))[k]? := by rw [List.getElem?_take, if_pos (by omega)]
    rw [← Array.getElem?_toList, e, htake]
    simp [madeCells, hz, hk, Nat.mod_one]
end Go.Proofs.YtnekhaacapdmfaaDoor
namespace Go.Proofs.YtnekhaacapdmfaaDoor

def delC (left : Nat → Bool) (k : Nat) : Nat → Bool := fun j => left j && j != k
/-- the least of what is left below k; -1 for none -/
def minGo (f : Nat → Int) (left : Nat → Bool) : Nat → Int
  | 0 => -1
  | k + 1 => if left k = true ∧ (minGo f left k < 0 ∨ f k < minGo f left k) then f k else minGo f left k
def outGo (f : Nat → Int) (g : Nat → List Int) (left : Nat → Bool) : Nat → List Int
  | 0 => []
  | k + 1 => if left k = true ∧ (minGo f left k < 0 ∨ f k < minGo f left k) then (k : Int) :: g k else outGo f g left k
/-- the least cost of rows of the columns left -/
def bestS : List (List Int) → (Nat → Bool) → Int
  | [], _ => 0
  | row :: rest, left => minGo (fun k => row.getD k 0 + bestS rest (delC left k)) left row.length
/-- what the program chooses -/
def chooseS : List (List Int) → (Nat → Bool) → List Int
  | [], _ => []
  | row :: rest, left => match (List.range row.length).find? (fun k => left k && row.getD k 0 + bestS rest (delC left k) == bestS (row :: rest) left) with
    | none => chooseS rest left
    | some k => (k : Int) :: chooseS rest (delC left k)
/-- what the document chooses -/
def refOut : List (List Int) → (Nat → Bool) → List Int
  | [], _ => []
  | row :: rest, left => outGo (fun k => row.getD k 0 + bestS rest (delC left k)) (fun k => refOut rest (delC left k)) left row.length
/-- how many are left below n -/
def cntL (left : Nat → Bool) : Nat → Nat
  | 0 => 0
  | n + 1 => cntL left n + (if left n = true then 1 else 0)

theorem cnt_del_out (left : Nat → Bool) {k : Nat} : ∀ (n : Nat), n ≤ k → cntL (delC left k) n = cntL left n
  | 0, _ => rfl
  | n + 1, h => by
    rw [cntL, cntL, cnt_del_out left n (by omega)]
    have : delC left k n = left n := by unfold delC; rw [show (n != k) = true by simp; omega, Bool.and_true]
    rw [this]
theorem cnt_del (left : Nat → Bool) {k : Nat} (hk : left k = true) : ∀ (n : Nat), k < n → cntL (delC left k) n + 1 = cntL left n
  | 0, h => absurd h (by omega)
  | n + 1, h => by
    rw [cntL, cntL]
    by_cases e : k = n
    · subst e
      rw [cnt_del_out left k (Nat.le_refl _), if_pos hk, if_neg (by unfold delC; simp)]
    · have : delC left k n = left n := by unfold delC; rw [show (n != k) = true by simp; omega, Bool.and_true]
      rw [this, ← cnt_del left hk n (by omega)]
      omega
theorem cnt_some {left : Nat → Bool} : ∀ {n : Nat}, 0 < cntL left n → ∃ j, j < n ∧ left j = true
  | 0, h => absurd h (by simp [cntL])
  | n + 1, h => by
    rw [cntL] at h
    by_cases e : left n = true
    · exact ⟨n, by omega, e⟩
    · rw [if_neg e] at h
      obtain ⟨j, q, r⟩ := cnt_some (n := n) (by omega)
      exact ⟨j, by omega, r⟩
theorem del_left {left : Nat → Bool} {k j : Nat} (h : delC left k j = true) : left j = true ∧ j ≠ k := by
  unfold delC at h
  simpa using h

theorem min_none {f : Nat → Int} {left : Nat → Bool} : ∀ {k : Nat}, (∀ j, j < k → left j = false) → minGo f left k = -1
  | 0, _ => rfl
  | k + 1, h => by
    rw [minGo, if_neg (by rw [h k (by omega)]; simp), min_none fun j q => h j (by omega)]
/-- the least is one of them, the first such; the choice is its -/
theorem min_first {f : Nat → Int} {left : Nat → Bool} (g : Nat → List Int) : ∀ {k : Nat}, (∀ j, j < k → left j = true → 0 ≤ f j) → (∃ j, j < k ∧ left j = true) →
    ∃ j, j < k ∧ left j = true ∧ minGo f left k = f j ∧ (∀ i, i < k → left i = true → f j ≤ f i) ∧ (∀ i, i < j → left i = true → f j < f i) ∧ outGo f g left k = (j : Int) :: g j
  | 0, _, h => by obtain ⟨j, q, _⟩ := h; omega
  | k + 1, hp, h => by
    by_cases hex : ∃ j, j < k ∧ left j = true
    · obtain ⟨j, q1, q2, q3, q4, q5, q6⟩ := min_first g (fun i q => hp i (by omega)) hex
      have hj := hp j (by omega) q2
      by_cases ht : left k = true ∧ f k < f j
      · refine ⟨k, by omega, ht.1, ?_, fun i qi li => ?_, fun i qi li => ?_, ?_⟩
        · rw [minGo, if_pos ⟨ht.1, .inr (by rw [q3]; exact ht.2)⟩]
        · by_cases e : i = k
          · subst e; exact Int.le_refl _
          · have := q4 i (by omega) li
            have := ht.2
            omega
        · have := q4 i qi li
          have := ht.2
          omega
        · rw [outGo, if_pos ⟨ht.1, .inr (by rw [q3]; exact ht.2)⟩]
      · have hn : ¬ (left k = true ∧ (minGo f left k < 0 ∨ f k < minGo f left k)) := by
          rintro ⟨a, b⟩
          rw [q3] at b
          rcases b with b | b
          · omega
          · exact ht ⟨a, b⟩
        refine ⟨j, by omega, q2, by rw [minGo, if_neg hn, q3], fun i qi li => ?_, q5, by rw [outGo, if_neg hn, q6]⟩
        by_cases e : i = k
        · subst e
          exact Int.not_lt.1 fun l => ht ⟨li, l⟩
        · exact q4 i (by omega) li
    · have hnone : ∀ j, j < k → left j = false := fun j q => by
        cases e : left j with
        | false => rfl
        | true => exact absurd ⟨j, q, e⟩ hex
      have hk : left k = true := by
        obtain ⟨j, q, l⟩ := h
        by_cases e : j = k
        · rw [← e]; exact l
        · rw [hnone j (by omega)] at l; cases l
      have hm : left k = true ∧ (minGo f left k < 0 ∨ f k < minGo f left k) := ⟨hk, .inl (by rw [min_none hnone]; decide)⟩
      refine ⟨k, by omega, hk, by rw [minGo, if_pos hm], fun i qi li => ?_, fun i qi li => ?_, by rw [outGo, if_pos hm]⟩
      · by_cases e : i = k
        · subst e; exact Int.le_refl _
        · rw [hnone i (by omega)] at li; cases li
      · rw [hnone i qi] at li; cases li

/-- rows that may be -/
def SqOk (n : Nat) (rows : List (List Int)) : Prop := ∀ row ∈ rows, row.length = n ∧ ∀ c ∈ row, 0 ≤ c
theorem sq_tail {n : Nat} {row : List Int} {rest : List (List Int)} (h : SqOk n (row :: rest)) : SqOk n rest := fun r hr => h r (List.mem_cons_of_mem _ hr)
theorem sq_at {n : Nat} {row : List Int} {rest : List (List Int)} (h : SqOk n (row :: rest)) (k : Nat) : 0 ≤ row.getD k 0 := by
  rw [List.getD_eq_getElem?_getD]
  cases e : row[k]? with
  | none => exact Int.le_refl _
  | some c => exact (h row (List.mem_cons_self ..)).2 c (List.mem_of_getElem? e)
theorem best_pos {n : Nat} : ∀ {rows : List (List Int)} {left : Nat → Bool}, SqOk n rows → rows.length ≤ cntL left n → 0 ≤ bestS rows left
  | [], _, _, _ => Int.le_refl _
  | row :: rest, left, h, hc => by
    have hl : row.length = n := (h row (List.mem_cons_self ..)).1
    simp only [List.length_cons] at hc
    have hp : ∀ j, j < row.length → left j = true → 0 ≤ row.getD j 0 + bestS rest (delC left j) := fun j q l => by
      have := sq_at h j
      have := best_pos (rows := rest) (left := delC left j) (sq_tail h) (by have := cnt_del left l n (by omega); omega)
      omega
    obtain ⟨j, q1, q2, q3, _⟩ := min_first (fun _ => []) hp (by rw [hl]; exact cnt_some (by omega))
    rw [bestS, q3]
    exact hp j q1 q2
/-- the step: the first column that is as cheap as can be -/
theorem best_step {n : Nat} {row : List Int} {rest : List (List Int)} {left : Nat → Bool} (h : SqOk n (row :: rest)) (hc : rest.length + 1 ≤ cntL left n) :
    ∃ j, j < n ∧ left j = true ∧ bestS (row :: rest) left = row.getD j 0 + bestS rest (delC left j) ∧ rest.length ≤ cntL (delC left j) n
      ∧ (∀ i, i < n → left i = true → bestS (row :: rest) left ≤ row.getD i 0 + bestS rest (delC left i))
      ∧ chooseS (row :: rest) left = (j : Int) :: chooseS rest (delC left j) ∧ refOut (row :: rest) left = (j : Int) :: refOut rest (delC left j) := by
  have hl : row.length = n := (h row (List.mem_cons_self ..)).1
  have hp : ∀ j, j < row.length → left j = true → 0 ≤ row.getD j 0 + bestS rest (delC left j) := fun j q l => by
    have := sq_at h j
    have := best_pos (rows := rest) (left := delC left j) (sq_tail h) (by have := cnt_del left l n (by omega); omega)
    omega
  obtain ⟨j, q1, q2, q3, q4, q5, q6⟩ := min_first (fun k => refOut rest (delC left k)) hp (by rw [hl]; exact cnt_some (by omega))
  have e : bestS (row :: rest) left = row.getD j 0 + bestS rest (delC left j) := by rw [bestS, q3]
  refine ⟨j, by omega, q2, e, by have := cnt_del left q2 n (by omega); omega, fun i qi li => by rw [e]; exact q4 i (by omega) li, ?_, by rw [refOut, q6]⟩
  have hf : (List.range row.length).find? (fun k => left k && row.getD k 0 + bestS rest (delC left k) == bestS (row :: rest) left) = some j := by
    rw [List.find?_range_eq_some]
    refine ⟨by rw [q2, e]; simp, List.mem_range.2 q1, fun i qi => ?_⟩
    cases li : left i with
    | false => rfl
    | true =>
      have := q5 i qi li
      rw [e]
      simp only [Bool.true_and, Bool.not_eq_true', beq_eq_false_iff_ne, ne_eq]
      omega
  rw [chooseS, hf]
/-- what the program chooses is what the document chooses -/
theorem choose_ref {n : Nat} : ∀ {rows : List (List Int)} {left : Nat → Bool}, SqOk n rows → rows.length ≤ cntL left n → chooseS rows left = refOut rows left
  | [], _, _, _ => rfl
  | row :: rest, left, h, hc => by
    obtain ⟨j, _, _, _, q4, _, q6, q7⟩ := best_step h (by simpa using hc)
    rw [q6, q7, choose_ref (sq_tail h) q4]
theorem choose_len {n : Nat} : ∀ {rows : List (List Int)} {left : Nat → Bool}, SqOk n rows → rows.length ≤ cntL left n → (chooseS rows left).length = rows.length
  | [], _, _, _ => rfl
  | row :: rest, left, h, hc => by
    obtain ⟨j, _, _, _, q4, _, q6, _⟩ := best_step h (by simpa using hc)
    rw [q6, List.length_cons, choose_len (sq_tail h) q4, List.length_cons]

/-! ### a choice's cost -/
/-- the sum of a choice: none if a column is none or was there -/
def costGo (n : Nat) : List (List Int) → List Int → List Int → Int → Option Int
  | _, [], _, s => some s
  | [], _ :: _, _, _ => none
  | row :: rest, k :: m, seen, s => if k < 0 ∨ (n : Int) ≤ k ∨ k ∈ seen then none else costGo n rest m (seen ++ [k]) (s + row.getD k.toNat 0)
def Seen (n : Nat) (left : Nat → Bool) (seen : List Int) : Prop := ∀ k, k < n → (left k = true ↔ (k : Int) ∉ seen)
theorem seen_del {n : Nat} {left : Nat → Bool} {seen : List Int} (h : Seen n left seen) (j : Nat) : Seen n (delC left j) (seen ++ [(j : Int)]) := fun k hk => by
  unfold delC
  have := h k hk
  simp only [Bool.and_eq_true, bne_iff_ne, ne_eq, List.mem_append, List.mem_singleton, not_or, this]
  exact ⟨fun ⟨a, b⟩ => ⟨a, by omega⟩, fun ⟨a, b⟩ => ⟨a, by omega⟩⟩
/-- none is cheaper -/
theorem cost_ge {n : Nat} : ∀ {rows : List (List Int)} {m seen : List Int} {left : Nat → Bool} {s t : Int}, SqOk n rows → rows.length ≤ cntL left n → rows.length = m.length → Seen n left seen →
    costGo n rows m seen s = some t → s + bestS rows left ≤ t
  | [], [], _, _, s, t, _, _, _, _, h => by
    rw [costGo] at h
    injection h with h
    rw [bestS]; omega
  | [], _ :: _, _, _, _, _, _, _, hl, _, _ => by simp at hl
  | _ :: _, [], _, _, _, _, _, _, hl, _, _ => by simp at hl
  | row :: rest, k :: m, seen, left, s, t, hs, hc, hl, hseen, h => by
    rw [costGo] at h
    by_cases hb : k < 0 ∨ (n : Int) ≤ k ∨ k ∈ seen
    · rw [if_pos hb] at h; cases h
    · rw [if_neg hb] at h
      obtain ⟨j, rfl⟩ : ∃ j : Nat, k = j := ⟨k.toNat, by omega⟩
      have hj : j < n := by omega
      have hlj : left j = true := (hseen j hj).2 fun q => hb (.inr (.inr q))
      obtain ⟨_, _, _, _, _, q, _⟩ := best_step hs (by simpa using hc)
      have q := q j hj hlj
      have := cost_ge (sq_tail hs) (by have := cnt_del left hlj n hj; simp at hc; omega) (by simpa using hl) (seen_del hseen j) h
      rw [show ((j : Int)).toNat = j from rfl] at this
      omega
/-- what is chosen costs the least -/
theorem cost_choose {n : Nat} : ∀ {rows : List (List Int)} {seen : List Int} {left : Nat → Bool} {s : Int}, SqOk n rows → rows.length ≤ cntL left n → Seen n left seen →
    costGo n rows (chooseS rows left) seen s = some (s + bestS rows left)
  | [], _, _, s, _, _, _ => by rw [chooseS, costGo, bestS, Int.add_zero]
  | row :: rest, seen, left, s, hs, hc, hseen => by
    obtain ⟨j, q1, q2, q3, q4, _, q6, _⟩ := best_step hs (by simpa using hc)
    rw [q6, costGo, if_neg (by
      rintro (e | e | e)
      · omega
      · omega
      · exact (hseen j q1).1 q2 e), cost_choose (sq_tail hs) q4 (seen_del hseen j), q3, show ((j : Int)).toNat = j from rfl]
    congr 1; omega

/-! ### a row that is dearer for all columns -/
def addRow : List (List Int) → Nat → Int → List (List Int)
  | [], _, _ => []
  | row :: rest, 0, b => row.map (· + b) :: rest
  | row :: rest, r + 1, b => row :: addRow rest r b
theorem add_len : ∀ (rows : List (List Int)) (r : Nat) (b : Int), (addRow rows r b).length = rows.length
  | [], _, _ => rfl
  | _ :: _, 0, _ => rfl
  | _ :: rest, r + 1, b => by rw [addRow, List.length_cons, List.length_cons, add_len rest r b]
theorem sq_add {n : Nat} {b : Int} (hb : 0 ≤ b) : ∀ {rows : List (List Int)} (r : Nat), SqOk n rows → SqOk n (addRow rows r b)
  | [], _, h => h
  | row :: rest, 0, h => fun x hx => by
    rcases List.mem_cons.1 hx with rfl | hx
    · refine ⟨by rw [List.length_map]; exact (h row (List.mem_cons_self ..)).1, fun c hc => ?_⟩
      obtain ⟨d, hd, rfl⟩ := List.mem_map.1 hc
      have := (h row (List.mem_cons_self ..)).2 d hd
      show 0 ≤ d + b
      omega
    · exact h x (List.mem_cons_of_mem _ hx)
  | row :: rest, r + 1, h => fun x hx => by
    rcases List.mem_cons.1 hx with rfl | hx
    · exact h x (List.mem_cons_self ..)
    · exact sq_add hb r (sq_tail h) x hx
theorem min_add {f g : Nat → Int} {left : Nat → Bool} {b : Int} (hb : 0 ≤ b) : ∀ {k : Nat}, (∀ j, j < k → left j = true → 0 ≤ f j ∧ g j = f j + b) →
    (∀ j, j < k → left j = false) ∨ (0 ≤ minGo f left k ∧ minGo g left k = minGo f left k + b)
  | 0, _ => .inl fun j q => by omega
  | k + 1, h => by
    cases e : left k with
    | false =>
      rcases min_add hb (k := k) fun j q => h j (by omega) with q | ⟨q1, q2⟩
      · refine .inl fun j hj => ?_
        by_cases i : j = k
        · rw [i]; exact e
        · exact q j (by omega)
      · right
        rw [minGo, minGo, if_neg (by rw [e]; simp), if_neg (by rw [e]; simp)]
        exact ⟨q1, q2⟩
    | true =>
      right
      obtain ⟨p1, p2⟩ := h k (by omega) e
      rcases min_add hb (k := k) fun j q => h j (by omega) with q | ⟨q1, q2⟩
      · rw [minGo, minGo, min_none q, min_none q, if_pos ⟨e, .inl (by decide)⟩, if_pos ⟨e, .inl (by decide)⟩]
        exact ⟨p1, p2⟩
      · rw [minGo, minGo]
        by_cases t : f k < minGo f left k
        · rw [if_pos ⟨e, .inr t⟩, if_pos ⟨e, .inr (by omega)⟩]
          exact ⟨p1, p2⟩
        · rw [if_neg (by rintro ⟨_, u | u⟩ <;> omega), if_neg (by rintro ⟨_, u | u⟩ <;> omega)]
          exact ⟨q1, q2⟩
theorem getD_add {row : List Int} {b : Int} {k : Nat} (h : k < row.length) : (row.map (· + b)).getD k 0 = row.getD k 0 + b := by
  rw [List.getD_eq_getElem?_getD, List.getD_eq_getElem?_getD, List.getElem?_map, List.getElem?_eq_getElem h]; rfl
theorem best_add {n : Nat} {b : Int} (hb : 0 ≤ b) : ∀ {rows : List (List Int)} {r : Nat} {left : Nat → Bool}, SqOk n rows → rows.length ≤ cntL left n → r < rows.length →
    bestS (addRow rows r b) left = bestS rows left + b
  | [], _, _, _, _, h => by simp at h
  | row :: rest, 0, left, hs, hc, _ => by
    have hl : row.length = n := (hs row (List.mem_cons_self ..)).1
    simp only [List.length_cons] at hc
    rw [addRow, bestS, bestS, List.length_map]
    rcases min_add (f := fun k => row.getD k 0 + bestS rest (delC left k)) (g := fun k => (row.map (· + b)).getD k 0 + bestS rest (delC left k)) (left := left) hb (k := row.length) (fun j q l => by
        have := sq_at hs j
        have := best_pos (rows := rest) (left := delC left j) (sq_tail hs) (by have := cnt_del left l n (by omega); omega)
        refine ⟨by omega, ?_⟩
        show (row.map (· + b)).getD j 0 + _ = _
        rw [getD_add q]; omega) with q | ⟨_, q⟩
    · obtain ⟨j, q1, q2⟩ := cnt_some (left := left) (n := n) (by omega)
      rw [q j (by omega)] at q2; cases q2
    · exact q
  | row :: rest, r + 1, left, hs, hc, hr => by
    have hl : row.length = n := (hs row (List.mem_cons_self ..)).1
    simp only [List.length_cons] at hc hr
    rw [addRow, bestS, bestS]
    rcases min_add (f := fun k => row.getD k 0 + bestS rest (delC left k)) (g := fun k => row.getD k 0 + bestS (addRow rest r b) (delC left k)) (left := left) hb (k := row.length) (fun j q l => by
        have hd := cnt_del left l n (by omega)
        have := sq_at hs j
        have := best_pos (rows := rest) (left := delC left j) (sq_tail hs) (by omega)
        refine ⟨by omega, ?_⟩
        show row.getD j 0 + bestS (addRow rest r b) (delC left j) = _
        rw [best_add hb (sq_tail hs) (by omega) (by omega)]; omega) with q | ⟨_, q⟩
    · obtain ⟨j, q1, q2⟩ := cnt_some (left := left) (n := n) (by omega)
      rw [q j (by omega)] at q2; cases q2
    · exact q
theorem find_same {p q : Nat → Bool} : ∀ {l : List Nat}, (∀ k ∈ l, p k = q k) → l.find? p = l.find? q
  | [], _ => rfl
  | a :: r, h => by
    rw [List.find?_cons, List.find?_cons, h a (List.mem_cons_self ..), find_same fun k hk => h k (List.mem_cons_of_mem _ hk)]
/-- the same is chosen -/
theorem choose_add {n : Nat} {b : Int} (hb : 0 ≤ b) : ∀ {rows : List (List Int)} {r : Nat} {left : Nat → Bool}, SqOk n rows → rows.length ≤ cntL left n → r < rows.length →
    chooseS (addRow rows r b) left = chooseS rows left
  | [], _, _, _, _, h => by simp at h
  | row :: rest, 0, left, hs, hc, hr => by
    have hl : row.length = n := (hs row (List.mem_cons_self ..)).1
    have e := best_add hb hs hc hr
    rw [addRow] at e ⊢
    rw [chooseS, chooseS, e, List.length_map]
    rw [find_same (q := fun k => left k && row.getD k 0 + bestS rest (delC left k) == bestS (row :: rest) left) fun k hk => by
      rw [getD_add (List.mem_range.1 hk)]
      congr 1
      rw [Bool.eq_iff_iff, beq_iff_eq, beq_iff_eq]; omega]
  | row :: rest, r + 1, left, hs, hc, hr => by
    have hl : row.length = n := (hs row (List.mem_cons_self ..)).1
    have e := best_add hb hs hc hr
    rw [addRow] at e ⊢
    simp only [List.length_cons] at hc hr
    obtain ⟨j, q1, q2, q3, q4, _, q6, _⟩ := best_step hs hc
    rw [chooseS, e, find_same (q := fun k => left k && row.getD k 0 + bestS rest (delC left k) == bestS (row :: rest) left) fun k hk => by
      cases l : left k with
      | false => rfl
      | true =>
        have hd := cnt_del left l n (by rw [← hl]; exact List.mem_range.1 hk)
        rw [best_add hb (sq_tail hs) (by omega) (by omega)]
        simp only [Bool.true_and]
        rw [Bool.eq_iff_iff, beq_iff_eq, beq_iff_eq]; omega]
    rw [chooseS] at q6 ⊢
    cases hf : (List.range row.length).find? (fun k => left k && row.getD k 0 + bestS rest (delC left k) == bestS (row :: rest) left) with
    | none =>
      exfalso
      rw [List.find?_eq_none] at hf
      exact hf j (List.mem_range.2 (by omega)) (by rw [q2, q3]; simp)
    | some k =>
      have hk := List.find?_some hf
      have hkm := List.mem_range.1 (List.mem_of_find?_eq_some hf)
      simp only [Bool.and_eq_true] at hk
      have hd := cnt_del left hk.1 n (by omega)
      simp only
      rw [choose_add hb (sq_tail hs) (by omega) (by omega)]
end Go.Proofs.YtnekhaacapdmfaaDoor
namespace Go.Proofs.YtnekhaacapdmfaaDoor
def bitsOf (s : Nat) : Nat → Bool := fun k => s.testBit k
theorem bit_del_small : ∀ s, s < 256 → ∀ k, k < 8 → s.testBit k = true → ∀ j, j < 8 → (s - 2 ^ k).testBit j = (s.testBit j && j != k) := by decide +kernel
theorem low_small : ∀ s, s < 256 → 0 < s → cntL (bitsOf (s &&& (s - 1))) 8 + 1 = cntL (bitsOf s) 8 ∧ s &&& (s - 1) < s := by decide +kernel
theorem bits_le {s k : Nat} (h : s.testBit k = true) : 2 ^ k ≤ s := Nat.ge_two_pow_of_testBit h
theorem bits_del {s k : Nat} (hs : s < 256) (hk : k < 8) (h : bitsOf s k = true) : bitsOf (s - 2 ^ k) = delC (bitsOf s) k := by
  funext j
  unfold bitsOf delC
  by_cases hj : j < 8
  · exact bit_del_small s hs k hk h j hj
  · show (s - 2 ^ k).testBit j = (s.testBit j && j != k)
    have h1 : s < 2 ^ j := Nat.lt_of_lt_of_le hs (Nat.pow_le_pow_right (n := 2) (by decide) (show 8 ≤ j by omega))
    rw [Nat.testBit_lt_two_pow h1, Nat.testBit_lt_two_pow (Nat.lt_of_le_of_lt (Nat.sub_le _ _) h1)]; rfl
theorem bits_full (n k : Nat) : bitsOf (2 ^ n - 1) k = decide (k < n) := Nat.testBit_two_pow_sub_one n k
theorem cnt_full (n : Nat) : ∀ (k : Nat), k ≤ n → cntL (bitsOf (2 ^ n - 1)) k = k
  | 0, _ => rfl
  | k + 1, h => by rw [cntL, cnt_full n k (by omega), if_pos (by rw [bits_full]; simp; omega)]
theorem cnt_beyond {s n : Nat} (h : s < 2 ^ n) : ∀ (k : Nat), n ≤ k → cntL (bitsOf s) k = cntL (bitsOf s) n
  | 0, q => by rw [show n = 0 by omega]
  | k + 1, q => by
    by_cases e : n = k + 1
    · rw [e]
    · rw [cntL, cnt_beyond h k (by omega), if_neg]; · rfl
      unfold bitsOf
      rw [Nat.testBit_lt_two_pow (Nat.lt_of_lt_of_le h (Nat.pow_le_pow_right (n := 2) (by decide) (show n ≤ k by omega)))]
      decide
theorem cnt_zero (n : Nat) : cntL (bitsOf 0) n = 0 := by
  induction n with
  | zero => rfl
  | succ n ih => rw [cntL, ih, if_neg (by unfold bitsOf; simp)]
theorem cnt_pos {s : Nat} (h : s < 256) (h0 : 0 < s) : 0 < cntL (bitsOf s) 8 := by have := (low_small s h h0).1; omega
theorem bits_end {s n k : Nat} (h : s < 2 ^ n) (hk : bitsOf s k = true) : k < n := by
  have := bits_le hk
  exact Nat.not_le.1 fun q => by
    have := Nat.pow_le_pow_right (n := 2) (by decide) q
    omega
end Go.Proofs.YtnekhaacapdmfaaDoor
namespace Go.Proofs.YtnekhaacapdmfaaDoor

/-- rows that may be, with bounded costs -/
def SqBd (n : Nat) (rows : List (List Int)) : Prop := ∀ row ∈ rows, row.length = n ∧ ∀ c ∈ row, 0 ≤ c ∧ c ≤ 100000
theorem SqBd.ok {n : Nat} {rows : List (List Int)} (h : SqBd n rows) : SqOk n rows := fun r hr => ⟨(h r hr).1, fun c hc => ((h r hr).2 c hc).1⟩
theorem SqBd.drop {n : Nat} {rows : List (List Int)} (h : SqBd n rows) (k : Nat) : SqBd n (rows.drop k) := fun r hr => h r (List.mem_of_mem_drop hr)
theorem SqBd.tail {n : Nat} {row : List Int} {rest : List (List Int)} (h : SqBd n (row :: rest)) : SqBd n rest := fun r hr => h r (List.mem_cons_of_mem _ hr)
theorem SqBd.at {n : Nat} {row : List Int} {rest : List (List Int)} (h : SqBd n (row :: rest)) (k : Nat) : 0 ≤ row.getD k 0 ∧ row.getD k 0 ≤ 100000 := by
  rw [List.getD_eq_getElem?_getD]
  cases e : row[k]? with
  | none => exact ⟨Int.le_refl _, by decide⟩
  | some c => exact (h row (List.mem_cons_self ..)).2 c (List.mem_of_getElem? e)
theorem best_le {n : Nat} : ∀ {rows : List (List Int)} {left : Nat → Bool}, SqBd n rows → rows.length ≤ cntL left n → 0 ≤ bestS rows left ∧ bestS rows left ≤ 100000 * rows.length
  | [], _, _, _ => ⟨Int.le_refl _, Int.le_refl _⟩
  | row :: rest, left, h, hc => by
    obtain ⟨j, _, _, q3, q4, _⟩ := best_step h.ok (by simpa using hc)
    have h1 := h.at j
    have h2 := best_le (left := delC left j) h.tail q4
    rw [q3, List.length_cons]
    omega
theorem cnt_le (left : Nat → Bool) : ∀ n, cntL left n ≤ n
  | 0 => Nat.le_refl _
  | n + 1 => by have := cnt_le left n; rw [cntL]; split <;> omega
/-- how many columns a set has -/
def cntN (s : Nat) : Nat := cntL (bitsOf s) 8
/-- the least cost of a set of columns for the last rows -/
def bestN (rows : List (List Int)) (s : Nat) : Int := bestS (rows.drop (rows.length - cntN s)) (bitsOf s)
theorem cntN_le {s n : Nat} (h : s < 2 ^ n) (hn : n ≤ 8) : cntN s ≤ n := by
  unfold cntN
  rw [cnt_beyond h 8 hn]
  exact cnt_le _ _
theorem cntN_zero : cntN 0 = 0 := cnt_zero 8
theorem cntN_full {n : Nat} (hn : n ≤ 8) : cntN (2 ^ n - 1) = n := by
  unfold cntN
  rw [cnt_beyond (n := n) (by have := Nat.two_pow_pos n; omega) 8 hn, cnt_full n n (Nat.le_refl _)]
theorem pow_small {s n : Nat} (h : s < 2 ^ n) (hn : n ≤ 8) : s < 256 := Nat.lt_of_lt_of_le h (Nat.pow_le_pow_right (n := 2) (by decide) hn)
theorem cntN_pos {s : Nat} (h : s < 256) (h0 : 0 < s) : 0 < cntN s := cnt_pos h h0
theorem cntN_low {s : Nat} (h : s < 256) (h0 : 0 < s) : cntN (s &&& (s - 1)) + 1 = cntN s ∧ s &&& (s - 1) < s := low_small s h h0
theorem cntN_del {s k : Nat} (h : s < 256) (hk : k < 8) (hb : bitsOf s k = true) : cntN (s - 2 ^ k) + 1 = cntN s ∧ 2 ^ k ≤ s := by
  unfold cntN
  rw [bits_del h hk hb]
  exact ⟨cnt_del (bitsOf s) hb 8 hk, bits_le hb⟩
theorem bestN_zero (rows : List (List Int)) : bestN rows 0 = 0 := by
  unfold bestN
  rw [cntN_zero, Nat.sub_zero, List.drop_length]; rfl
/-- a set with a column less: what the rows behind cost -/
theorem bestN_del {rows : List (List Int)} {s k r : Nat} (h : s < 256) (hk : k < 8) (hb : bitsOf s k = true) (hr : r + cntN s = rows.length) : bestN rows (s - 2 ^ k) = bestS (rows.drop (r + 1)) (delC (bitsOf s) k) := by
  have := (cntN_del h hk hb).1
  unfold bestN
  rw [bits_del h hk hb, show rows.length - cntN (s - 2 ^ k) = r + 1 by omega]
/-- and what they cost at most -/
theorem bestN_bd {rows : List (List Int)} {s : Nat} (hq : SqBd rows.length rows) (hn : rows.length ≤ 8) (h : s < 2 ^ rows.length) : 0 ≤ bestN rows s ∧ bestN rows s ≤ 800000 := by
  have hc := cntN_le h hn
  have := best_le (left := bitsOf s) (hq.drop (rows.length - cntN s)) (by rw [List.length_drop]; unfold cntN at *; rw [cnt_beyond h 8 hn] at hc ⊢; omega)
  unfold bestN
  rw [List.length_drop] at this
  omega
theorem bestN_step {rows : List (List Int)} {row : List Int} {s r : Nat} (hr : r + cntN s = rows.length) (hx : rows[r]? = some row) : bestN rows s = minGo (fun k => row.getD k 0 + bestS (rows.drop (r + 1)) (delC (bitsOf s) k)) (bitsOf s) row.length := by
  unfold bestN
  rw [show rows.length - cntN s = r by omega]
  obtain ⟨hk, e⟩ := List.getElem?_eq_some_iff.1 hx
  rw [List.drop_eq_getElem_cons hk, e, bestS]
/-! ### the numbers' bits -/
theorem tb_and : ∀ s, s < 256 → ∀ k, k < 8 → (s / 2 ^ k) % 2 = (if s.testBit k = true then 1 else 0) := by decide +kernel
end Go.Proofs.YtnekhaacapdmfaaDoor
namespace Go.Proofs.YtnekhaacapdmfaaDoor
theorem bits_and_i64 (a b : Nat) (ha : a < 9223372036854775808) (hb : b < 9223372036854775808) : bits .and .i64 (a : Int) (b : Int) = ((a &&& b : Nat) : Int) := by
  have h1 : (BitVec.ofInt 64 (a : Int)).toNat = a := by rw [BitVec.ofInt_natCast, BitVec.toNat_ofNat]; exact Nat.mod_eq_of_lt (by omega)
  have h2 : (BitVec.ofInt 64 (b : Int)).toNat = b := by rw [BitVec.ofInt_natCast, BitVec.toNat_ofNat]; exact Nat.mod_eq_of_lt (by omega)
  have h3 : a &&& b < 9223372036854775808 := Nat.lt_of_le_of_lt Nat.and_le_left ha
  show IntKind.i64.wrap ((BitVec.ofInt 64 (a : Int) &&& BitVec.ofInt 64 (b : Int)).toNat : Int) = _
  rw [BitVec.toNat_and, h1, h2]
  simp only [IntKind.wrap, IntKind.bits, IntKind.signed]
  generalize a &&& b = c at h3 ⊢
  simp
  omega
theorem bits_or_i64 (a b : Nat) (ha : a < 4611686018427387904) (hb : b < 4611686018427387904) : bits .or .i64 (a : Int) (b : Int) = ((a ||| b : Nat) : Int) := by
  have h1 : (BitVec.ofInt 64 (a : Int)).toNat = a := by rw [BitVec.ofInt_natCast, BitVec.toNat_ofNat]; exact Nat.mod_eq_of_lt (by omega)
  have h2 : (BitVec.ofInt 64 (b : Int)).toNat = b := by rw [BitVec.ofInt_natCast, BitVec.toNat_ofNat]; exact Nat.mod_eq_of_lt (by omega)
  have h3 : a ||| b < 2 ^ 62 := Nat.or_lt_two_pow (by omega) (by omega)
  show IntKind.i64.wrap ((BitVec.ofInt 64 (a : Int) ||| BitVec.ofInt 64 (b : Int)).toNat : Int) = _
  rw [BitVec.toNat_or, h1, h2]
  simp only [IntKind.wrap, IntKind.bits, IntKind.signed]
  generalize a ||| b = c at h3 ⊢
  simp
  omega
theorem bits_del64 : ∀ s : Nat, s < 256 → ∀ k : Nat, k < 8 → s.testBit k = true → bits .andNot .i64 (s : Int) ((2 ^ k : Nat) : Int) = ((s - 2 ^ k : Nat) : Int) := by decide +kernel
theorem bits_low64 : ∀ s : Nat, s < 256 → 0 < s → bits .and .i64 (s : Int) ((s : Int) - 1) = ((s &&& (s - 1) : Nat) : Int) := by decide +kernel
theorem bits_at64 : ∀ s : Nat, s < 256 → ∀ k : Nat, k < 8 → (bits .and .i64 ((s : Int) / 2 ^ k) 1 == 1) = s.testBit k := by decide +kernel
end Go.Proofs.YtnekhaacapdmfaaDoor
namespace Go.Proofs.YtnekhaacapdmfaaDoor
open Go.RowKit

/-- the first k bytes of three as a number -/
def pre (l : List UInt8) : Nat → Nat
  | 0 => 0
  | k + 1 => pre l k * 256 + (l.getD k 0).toNat
theorem pre_lt (l : List UInt8) : ∀ k, pre l k < 256 ^ k
  | 0 => by simp [pre]
  | k + 1 => by
    have h1 := pre_lt l k
    have h2 := (l.getD k 0).toNat_lt
    rw [pre, Nat.pow_succ]
    omega
theorem pre_3 {l : List UInt8} (h : l.length ≤ 3) : pre l 3 = num3 l := by
  match l, h with
  | [], _ => rfl
  | [a], _ => simp [pre, num3]; omega
  | [a, b], _ => simp [pre, num3]; omega
  | [a, b, c], _ => simp [pre, num3]; omega
theorem or_byte {n : Nat} (hn : n < 65536) (x : UInt8) : bits .or .i64 ((n : Int) * 256) (x.toNat : Int) = ((n * 256 + x.toNat : Nat) : Int) := by
  have hx := x.toNat_lt
  have h1 := bits_or_i64 (n * 256) x.toNat (by omega) (by omega)
  rw [show ((n * 256 : Nat) : Int) = (n : Int) * 256 by omega] at h1
  rw [h1]
  congr 1
  have := Nat.two_pow_add_eq_or_of_lt (i := 8) (b := x.toNat) hx n
  rw [show (256 : Nat) = 2 ^ 8 by decide, Nat.mul_comm, ← this]
theorem and_63 (n : Nat) (h : n < 9223372036854775808) : bits .and .i64 (n : Int) 63 = ((n % 64 : Nat) : Int) := by
  have h1 := bits_and_i64 n 63 h (by decide)
  rw [show ((63 : Nat) : Int) = 63 by rfl] at h1
  rw [h1, show (63 : Nat) = 2 ^ 6 - 1 by decide, Nat.and_two_pow_sub_one_eq_mod]
def lettersB : ByteArray := ⟨#[65, 66, 67, 68, 69, 70, 71, 72, 73, 74, 75, 76, 77, 78, 79, 80, 81, 82, 83, 84, 85, 86, 87, 88, 89, 90, 97, 98, 99, 100, 101, 102, 103, 104, 105, 106, 107, 108, 109, 110, 111, 112, 113, 114, 115, 116, 117, 118, 119, 120, 121, 122, 48, 49, 50, 51, 52, 53, 54, 55, 56, 57, 43, 47]⟩
theorem letters_size : lettersB.size = 64 := rfl
theorem letters_get : ∀ k : Fin 64, (lettersB[k.1]'(by rw [letters_size]; exact k.2)) = letterAt k.1 := by decide +kernel
theorem letter_at {k : Nat} (hk : k < 64) (w : World) : (Instr.index 9 (.string lettersB) (.int .i64 (k : Int))).run Tryd.prog w = .ok (.int .u8 (letterAt k).toNat) w := by
  rw [run_index_string _ _ _ _ _ Tryd.underlying9]
  rw [dif_pos ⟨by omega, by rw [letters_size]; omega⟩]
  simp only [Int.toNat_natCast]
  rw [letters_get ⟨k, hk⟩]
/-- the letters of the first k places -/
def outAt (l : List UInt8) (k j : Nat) : Value := .int .u8 (if j < k then ((fourOf l).getD j 0).toNat else 0)
theorem four_get {l : List UInt8} {j : Nat} (hj : j < 4) : (fourOf l).getD j 0 = if l.length < j then 61 else letterAt (num3 l / 2 ^ (18 - 6 * j) % 64) := by
  unfold fourOf
  rw [List.getD_eq_getElem?_getD, List.getElem?_map, List.getElem?_range hj]; rfl

theorem outAt_step {l : List UInt8} {k j : Nat} {v : Value} (hv : v = .int .u8 ((fourOf l).getD k 0).toNat) : outAt l (k + 1) j = if j = k then v else outAt l k j := by
  unfold outAt
  by_cases e : j = k
  · subst e; rw [if_pos rfl, if_pos (by omega), hv]
  · rw [if_neg e]
    by_cases h : j < k
    · rw [if_pos h, if_pos (by omega)]
    · rw [if_neg h, if_neg (by omega)]

set_option maxHeartbeats 2000000 in
set_option maxRecDepth 100000 in
theorem four_any (l : List UInt8) (v : Value) (w : World) (h : Rdv w Never v l) (hl : l.length ≤ 3) :
    Calls Tryd.prog 64 #[v] w fun e w' => e = .returned (.string (toB (fourOf l))) ∧ Chg Never w w' := by
  obtain ⟨a, cap, rfl, h1, h2, h3⟩ := rdv_slice h
  unfold maxLen at h2
  go_enter Tryd.func64, Tryd.ntmps64
  go_wp2_with fail
  go_loop [3, 7] (fun n i => ∃ k : Nat, k ≤ 3 ∧ i = .int .i64 k ∧ n = .int .i64 (pre l k)) (fun _ i => 3 - (intOf i).toNat)
  case atStart => exact ⟨0, Nat.zero_le _, rfl, rfl⟩
  case round =>
    obtain ⟨k, hk, rfl, rfl⟩ := hrel
    have hp := pre_lt l k
    by_cases hk3 : k < 3
    · have hp2 : pre l k < 65536 := Nat.lt_of_lt_of_le hp (by match k, hk3 with
        | 0, _ => decide
        | 1, _ => decide
        | 2, _ => decide)
      have hwr : wrap64 ((pre l k : Int) * 256) = (pre l k : Int) * 256 := by unfold wrap64; omega
      by_cases hlt : k < l.length
      · obtain ⟨x, hx⟩ : ∃ x, l[k]? = some x := ⟨l[k], by simp [hlt]⟩
        obtain ⟨b, off, rfl, _, _, hcx⟩ := elems_byte h3 hx
        have hor := or_byte hp2 x
        have hwx : wrap64 (x.toNat : Int) = (x.toNat : Int) := by have := x.toNat_lt; unfold wrap64; omega
        have HN : Hid (pre l (k + 1) = pre l k * 256 + x.toNat) := by rw [Hid, pre, List.getD_eq_getElem?_getD, hx]; rfl
        clear hx h3 h
        go_wp2_with fail
        go_round
        case rel => exact ⟨k + 1, by omega, by go_num, by rw [HN.out]; congr 1⟩
        case measure => simp [intOf]; omega
      · have HN : Hid (pre l (k + 1) = pre l k * 256) := by rw [Hid, pre, List.getD_eq_getElem?_getD, List.getElem?_eq_none (by omega)]; rfl
        go_wp2_with fail
        go_round
        case rel => exact ⟨k + 1, by omega, by go_num, by rw [HN.out]; congr 1⟩
        case measure => simp [intOf]; omega
    · obtain rfl : k = 3 := by omega
      rw [pre_3 hl] at hp ⊢
      go_wp2_with fail
      have hB0 : ValRow 135 w.heap.size (w.alloc (.cells #[.int .u8 0, .int .u8 0, .int .u8 0, .int .u8 0] 135)) 4 (outAt l 0) := ⟨_, heap_alloc_new _ _, rfl, fun k hk => by
        match k, hk with
        | 0, _ => rfl
        | 1, _ => rfl
        | 2, _ => rfl
        | 3, _ => rfl⟩
      have hA : Chg Never w (w.alloc (.cells #[.int .u8 0, .int .u8 0, .int .u8 0, .int .u8 0] 135)) := (Chg.refl Never w).alloc _
      have hp' : num3 l < 16777216 := hp
      clear hp
      go_loopw [24] (fun i wr => ∃ k : Nat, k ≤ 4 ∧ i = .int .i64 k ∧ Chg Never w wr ∧ ValRow 135 w.heap.size wr 4 (outAt l k)) (fun i _ => 4 - (intOf i).toNat)
      case atStart => exact ⟨0, Nat.zero_le _, rfl, hA, hB0⟩
      case round =>
        obtain ⟨k, hk, rfl, hw, hB⟩ := hrel
        rename World => wr
        clear hB0 hA
        match k, hk with
        | 0, _ =>
          have hc : ¬ l.length < 0 := Nat.not_lt_zero _
          have hsh : bits .and .i64 ((num3 l : Int) / 262144) 63 = ((num3 l / 262144 % 64 : Nat) : Int) := by
            rw [show ((num3 l : Int) / 262144) = ((num3 l / 262144 : Nat) : Int) by omega]
            exact and_63 _ (by omega)
          have hla : (lettersB[num3 l / 262144 % 64]'(by rw [letters_size]; exact Nat.mod_lt _ (by decide))) = letterAt (num3 l / 2 ^ (18 - 6 * 0) % 64) := by
            rw [show letterAt (num3 l / 2 ^ (18 - 6 * 0) % 64) = letterAt (num3 l / 262144 % 64) by simp]
            exact letters_get ⟨_, Nat.mod_lt _ (by decide)⟩
          replace hla := Lib.hid hla
          have d0 := ValRow.cell hB (k := 0) (by decide)
          have d1 := ValRow.free hB 0
          have hB1 := ValRow.set hB (k := 0) (by decide) (.int .u8 (lettersB[num3 l / 262144 % 64]'(by rw [letters_size]; exact Nat.mod_lt _ (by decide))).toNat)
          have hw1 : Chg Never w (wr.setCell ⟨w.heap.size, 0, none⟩ (.int .u8 (lettersB[num3 l / 262144 % 64]'(by rw [letters_size]; exact Nat.mod_lt _ (by decide))).toNat)) := hw.setCell (.inl (Nat.le_refl _)) _
          have hB3 := hB1.congr (g := outAt l (0 + 1)) (fun j _ => outAt_step (by rw [four_get (by decide), if_neg hc, hla.out]))
          clear hB1
          go_wp2_with fail
          go_roundw
          case rel => exact ⟨0 + 1, by decide, by go_num, hw1, hB3⟩
          case measure => simp [intOf]
        | 1, _ =>
          have hsh : bits .and .i64 ((num3 l : Int) / 4096) 63 = ((num3 l / 4096 % 64 : Nat) : Int) := by
            rw [show ((num3 l : Int) / 4096) = ((num3 l / 4096 : Nat) : Int) by omega]
            exact and_63 _ (by omega)
          have hla : (lettersB[num3 l / 4096 % 64]'(by rw [letters_size]; exact Nat.mod_lt _ (by decide))) = letterAt (num3 l / 2 ^ (18 - 6 * 1) % 64) := by
            rw [show letterAt (num3 l / 2 ^ (18 - 6 * 1) % 64) = letterAt (num3 l / 4096 % 64) by simp]
            exact letters_get ⟨_, Nat.mod_lt _ (by decide)⟩
          replace hla := Lib.hid hla
          have d0 := ValRow.cell hB (k := 1) (by decide)
          have d1 := ValRow.free hB 1
          have hB1 := ValRow.set hB (k := 1) (by decide) (.int .u8 (lettersB[num3 l / 4096 % 64]'(by rw [letters_size]; exact Nat.mod_lt _ (by decide))).toNat)
          have hw1 : Chg Never w (wr.setCell ⟨w.heap.size, 1, none⟩ (.int .u8 (lettersB[num3 l / 4096 % 64]'(by rw [letters_size]; exact Nat.mod_lt _ (by decide))).toNat)) := hw.setCell (.inl (Nat.le_refl _)) _
          by_cases hc : l.length < 1
          · have d2 := ValRow.cell hB1 (k := 1) (by decide)
            have d3 := ValRow.free hB1 1
            have hB2 := ValRow.set hB1 (k := 1) (by decide) (.int .u8 61)
            have hw2 := hw1.setCell (p := ⟨w.heap.size, 1, none⟩) (.inl (Nat.le_refl _)) (.int .u8 61)
            have hB3 := hB2.congr (g := outAt l (1 + 1)) (fun j _ => by
              by_cases e : j = 1
              · rw [if_pos e, e, outAt_step (v := .int .u8 61) (by rw [four_get (by decide), if_pos hc]; rfl), if_pos rfl]
              · rw [if_neg e, if_neg e, outAt_step (v := .int .u8 61) (by rw [four_get (by decide), if_pos hc]; rfl), if_neg e])
            clear hB1 hB2
            go_wp2_with fail
            go_roundw
            case rel => exact ⟨1 + 1, by decide, by go_num, hw2, hB3⟩
            case measure => simp [intOf]
          · have hB3 := hB1.congr (g := outAt l (1 + 1)) (fun j _ => outAt_step (by rw [four_get (by decide), if_neg hc, hla.out]))
            clear hB1
            go_wp2_with fail
            go_roundw
            case rel => exact ⟨1 + 1, by decide, by go_num, hw1, hB3⟩
            case measure => simp [intOf]
        | 2, _ =>
          have hsh : bits .and .i64 ((num3 l : Int) / 64) 63 = ((num3 l / 64 % 64 : Nat) : Int) := by
            rw [show ((num3 l : Int) / 64) = ((num3 l / 64 : Nat) : Int) by omega]
            exact and_63 _ (by omega)
          have hla : (lettersB[num3 l / 64 % 64]'(by rw [letters_size]; exact Nat.mod_lt _ (by decide))) = letterAt (num3 l / 2 ^ (18 - 6 * 2) % 64) := by
            rw [show letterAt (num3 l / 2 ^ (18 - 6 * 2) % 64) = letterAt (num3 l / 64 % 64) by simp]
            exact letters_get ⟨_, Nat.mod_lt _ (by decide)⟩
          replace hla := Lib.hid hla
          have d0 := ValRow.cell hB (k := 2) (by decide)
          have d1 := ValRow.free hB 2
          have hB1 := ValRow.set hB (k := 2) (by decide) (.int .u8 (lettersB[num3 l / 64 % 64]'(by rw [letters_size]; exact Nat.mod_lt _ (by decide))).toNat)
          have hw1 : Chg Never w (wr.setCell ⟨w.heap.size, 2, none⟩ (.int .u8 (lettersB[num3 l / 64 % 64]'(by rw [letters_size]; exact Nat.mod_lt _ (by decide))).toNat)) := hw.setCell (.inl (Nat.le_refl _)) _
          by_cases hc : l.length < 2
          · have d2 := ValRow.cell hB1 (k := 2) (by decide)
            have d3 := ValRow.free hB1 2
            have hB2 := ValRow.set hB1 (k := 2) (by decide) (.int .u8 61)
            have hw2 := hw1.setCell (p := ⟨w.heap.size, 2, none⟩) (.inl (Nat.le_refl _)) (.int .u8 61)
            have hB3 := hB2.congr (g := outAt l (2 + 1)) (fun j _ => by
              by_cases e : j = 2
              · rw [if_pos e, e, outAt_step (v := .int .u8 61) (by rw [four_get (by decide), if_pos hc]; rfl), if_pos rfl]
              · rw [if_neg e, if_neg e, outAt_step (v := .int .u8 61) (by rw [four_get (by decide), if_pos hc]; rfl), if_neg e])
            clear hB1 hB2
            go_wp2_with fail
            go_roundw
            case rel => exact ⟨2 + 1, by decide, by go_num, hw2, hB3⟩
            case measure => simp [intOf]
          · have hB3 := hB1.congr (g := outAt l (2 + 1)) (fun j _ => outAt_step (by rw [four_get (by decide), if_neg hc, hla.out]))
            clear hB1
            go_wp2_with fail
            go_roundw
            case rel => exact ⟨2 + 1, by decide, by go_num, hw1, hB3⟩
            case measure => simp [intOf]
        | 3, _ =>
          have hsh : bits .and .i64 ((num3 l : Int)) 63 = ((num3 l % 64 : Nat) : Int) := by
            rw [show ((num3 l : Int)) = ((num3 l : Nat) : Int) by omega]
            exact and_63 _ (by omega)
          have hla : (lettersB[num3 l % 64]'(by rw [letters_size]; exact Nat.mod_lt _ (by decide))) = letterAt (num3 l / 2 ^ (18 - 6 * 3) % 64) := by
            rw [show letterAt (num3 l / 2 ^ (18 - 6 * 3) % 64) = letterAt (num3 l % 64) by simp]
            exact letters_get ⟨_, Nat.mod_lt _ (by decide)⟩
          replace hla := Lib.hid hla
          have d0 := ValRow.cell hB (k := 3) (by decide)
          have d1 := ValRow.free hB 3
          have hB1 := ValRow.set hB (k := 3) (by decide) (.int .u8 (lettersB[num3 l % 64]'(by rw [letters_size]; exact Nat.mod_lt _ (by decide))).toNat)
          have hw1 : Chg Never w (wr.setCell ⟨w.heap.size, 3, none⟩ (.int .u8 (lettersB[num3 l % 64]'(by rw [letters_size]; exact Nat.mod_lt _ (by decide))).toNat)) := hw.setCell (.inl (Nat.le_refl _)) _
          by_cases hc : l.length < 3
          · have d2 := ValRow.cell hB1 (k := 3) (by decide)
            have d3 := ValRow.free hB1 3
            have hB2 := ValRow.set hB1 (k := 3) (by decide) (.int .u8 61)
            have hw2 := hw1.setCell (p := ⟨w.heap.size, 3, none⟩) (.inl (Nat.le_refl _)) (.int .u8 61)
            have hB3 := hB2.congr (g := outAt l (3 + 1)) (fun j _ => by
              by_cases e : j = 3
              · rw [if_pos e, e, outAt_step (v := .int .u8 61) (by rw [four_get (by decide), if_pos hc]; rfl), if_pos rfl]
              · rw [if_neg e, if_neg e, outAt_step (v := .int .u8 61) (by rw [four_get (by decide), if_pos hc]; rfl), if_neg e])
            clear hB1 hB2
            go_wp2_with fail
            go_roundw
            case rel => exact ⟨3 + 1, by decide, by go_num, hw2, hB3⟩
            case measure => simp [intOf]
          · have hB3 := hB1.congr (g := outAt l (3 + 1)) (fun j _ => outAt_step (by rw [four_get (by decide), if_neg hc, hla.out]))
            clear hB1
            go_wp2_with fail
            go_roundw
            case rel => exact ⟨3 + 1, by decide, by go_num, hw1, hB3⟩
            case measure => simp [intOf]
        | 4, _ => 
          have hR : Rdv wr Never (.slice (some ⟨w.heap.size, 0, none⟩) 4 4) (fourOf l) := by
            have hL := four_len l
            refine ⟨some ⟨w.heap.size, 0, none⟩, 4, by rw [hL], by rw [hL]; decide, by unfold maxLen; omega, fun i x hx => ?_⟩
            have hi := (List.getElem?_eq_some_iff.1 hx).1
            rw [hL] at hi
            refine ⟨w.heap.size, 0, [.int .u8 x.toNat], rfl, fun h => h, ?_, rfl⟩
            intro j u hj
            match j, hj with
            | 0, hj =>
              simp only [List.getElem?_cons_zero, Option.some.injEq] at hj
              subst hj
              have := ValRow.cell hB hi
              unfold outAt at this
              rw [if_pos hi, List.getD_eq_getElem?_getD, hx] at this
              simpa [Dat.n] using this
          have hcv := conv_str hR
          go_wp2_with fail
          go_ret
          exact ⟨rfl, hw⟩
end Go.Proofs.YtnekhaacapdmfaaDoor
