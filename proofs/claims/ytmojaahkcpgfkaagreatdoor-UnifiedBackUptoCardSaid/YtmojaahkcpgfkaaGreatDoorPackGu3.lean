/-
  PARTS: HUNKS AS TEXTS, in plain Lean (chapter 5): numbers, spans, heads; lines written and read.; HUNKS AS TEXTS, in plain Lean (chapter 5): the reader, line by line; what is printed is read, what is read is printed so.; HUNKS AS TEXTS, in plain Lean (chapter 5): whole texts. What is printed is read; what is read is printed so; cut off within the last line it is none.; PATCHES AS TEXTS, in plain Lean (chapter 8): lines written and read.; HUNKS AS TEXTS, in plain Lean: the document's reading (hunk by hunk) is the program's (line by line).; NUMBERS AS TEXTS, in plain Lean: a text that is the decimal numeral of its number; the document's reading of one.; HUNKS AS TEXTS, in plain Lean: what the program's functions compute, as the walks want it.; THE WALKS of unified.span and Write.; THE WALKS of the document's Dec and span (handstitchref2).
-/
import Derived.Test.YtmojaahkcpgfkaaGreatDoorPackGu2
import Derived.Lib.ItoaNum
import Derived.Lib.AtoiTie
import Derived.StillTailTactics
namespace Go.Proofs.YtmojaahkcpgfkaaGreatDoor

/-! ### numbers -/
def dec3 (n : Nat) : List UInt8 :=
  if n < 10 then [UInt8.ofNat (48 + n)] else if n < 100 then [UInt8.ofNat (48 + n / 10), UInt8.ofNat (48 + n % 10)] else [UInt8.ofNat (48 + n / 10 / 10), UInt8.ofNat (48 + n / 10 % 10), UInt8.ofNat (48 + n % 10)]
theorem digits_three {n : Nat} (h : n < 1000) : Lib.decDigits n = dec3 n := by
  unfold dec3
  by_cases h1 : n < 10
  · rw [if_pos h1, Lib.decDigits_one h1]
  · rw [if_neg h1]
    by_cases h2 : n < 100
    · rw [if_pos h2, Lib.decDigits_two h1 h2]
    · rw [if_neg h2, Lib.decDigits, dif_neg h1, Lib.decDigits_two (by omega) (by omega)]
      rfl
theorem dec3_nat : ∀ n, n < 1000 → Lib.decNat (dec3 n) = some n := by decide +kernel
theorem dec3_chars : ∀ n, n < 1000 → (dec3 n).all (fun c => decide (48 ≤ c.toNat) && decide (c.toNat ≤ 57)) = true := by decide +kernel
theorem dec3_len : ∀ n, n < 1000 → (dec3 n).length ≤ 3 := by decide +kernel
/-- a number of at most three digits, written as it is -/
def numOf (s : List UInt8) : Option Nat := if s.length ≤ 3 then match Lib.decNat s with
  | some n => if Lib.decDigits n = s then some n else none
  | none => none
  else none
theorem num_dec {n : Nat} (h : n < 1000) : numOf (Lib.decDigits n) = some n := by
  unfold numOf
  rw [digits_three h, if_pos (dec3_len n h), dec3_nat n h]
  show (if Lib.decDigits n = dec3 n then some n else none) = _
  rw [if_pos (digits_three h)]
theorem num_some {s : List UInt8} {n : Nat} (h : numOf s = some n) : n < 1000 ∧ Lib.decDigits n = s := by
  unfold numOf at h
  by_cases hl : s.length ≤ 3
  · rw [if_pos hl] at h
    cases hd : Lib.decNat s with
    | none => rw [hd] at h; cases h
    | some k =>
      rw [hd] at h
      simp only at h
      by_cases he : Lib.decDigits k = s
      · rw [if_pos he] at h
        injection h with h
        subst h
        refine ⟨?_, he⟩
        have h1 := Lib.decFrom_lt _ _ _ (Lib.decNat_some hd).2
        have : (10 : Nat) ^ s.length ≤ 10 ^ 3 := Nat.pow_le_pow_right (by decide) hl
        omega
      · rw [if_neg he] at h; cases h
  · rw [if_neg hl] at h; cases h
theorem dec_digit {n : Nat} (h : n < 1000) {c : UInt8} (hc : c ∈ Lib.decDigits n) : 48 ≤ c.toNat ∧ c.toNat ≤ 57 := by
  rw [digits_three h] at hc
  have := List.all_eq_true.1 (dec3_chars n h) c hc
  simpa using this

/-! ### cuts -/
def cutSub (t : List UInt8) : List UInt8 → Option (List UInt8 × List UInt8)
  | [] => if t = [] then some ([], []) else none
  | c :: r => if t.isPrefixOf (c :: r) then some ([], (c :: r).drop t.length) else (cutSub t r).map fun p => (c :: p.1, p.2)
theorem cut_some {t : List UInt8} : ∀ {s a b : List UInt8}, cutSub t s = some (a, b) → s = a ++ t ++ b
  | [], a, b, h => by
    rw [cutSub] at h
    by_cases e : t = []
    · rw [if_pos e] at h
      injection h with h
      injection h with h1 h2
      rw [← h1, ← h2, e]; rfl
    · rw [if_neg e] at h; cases h
  | c :: r, a, b, h => by
    rw [cutSub] at h
    by_cases e : t.isPrefixOf (c :: r) = true
    · rw [if_pos e] at h
      injection h with h
      injection h with h1 h2
      rw [← h1, ← h2, List.nil_append]
      obtain ⟨q, hq⟩ := List.isPrefixOf_iff_prefix.1 e
      rw [← hq, List.drop_left]
    · rw [if_neg e] at h
      cases hr : cutSub t r with
      | none => rw [hr] at h; cases h
      | some p =>
        rw [hr] at h
        injection h with h
        injection h with h1 h2
        rw [← h1, ← h2, List.cons_append, List.cons_append, ← cut_some (a := p.1) (b := p.2) hr]
theorem cut_at {x : UInt8} {t : List UInt8} (b : List UInt8) : ∀ {a : List UInt8}, (∀ c ∈ a, c ≠ x) → cutSub (x :: t) (a ++ (x :: t) ++ b) = some (a, b)
  | [], _ => by
    rw [List.nil_append, List.cons_append, cutSub, if_pos (by rw [List.isPrefixOf_iff_prefix]; exact ⟨b, rfl⟩)]
    show some ([], (x :: t ++ b).drop (x :: t).length) = _
    rw [List.drop_left]
  | c :: a, h => by
    rw [List.cons_append, List.cons_append, cutSub, if_neg, cut_at b fun d hd => h d (List.mem_cons_of_mem _ hd)]
    · rfl
    · rw [List.isPrefixOf_iff_prefix]
      rintro ⟨q, hq⟩
      injection hq with h1 _
      exact h c (List.mem_cons_self ..) h1.symm
def dropPre (p s : List UInt8) : Option (List UInt8) := if p.isPrefixOf s then some (s.drop p.length) else none
def dropSuf (q s : List UInt8) : Option (List UInt8) := if q.isSuffixOf s then some (s.take (s.length - q.length)) else none
theorem pre_app (p r : List UInt8) : dropPre p (p ++ r) = some r := by
  unfold dropPre
  rw [if_pos (List.isPrefixOf_iff_prefix.2 ⟨r, rfl⟩), List.drop_left]
theorem pre_some {p s r : List UInt8} (h : dropPre p s = some r) : s = p ++ r := by
  unfold dropPre at h
  by_cases e : p.isPrefixOf s = true
  · rw [if_pos e] at h
    injection h with h
    obtain ⟨q, hq⟩ := List.isPrefixOf_iff_prefix.1 e
    rw [← h, ← hq, List.drop_left]
  · rw [if_neg e] at h; cases h
theorem suf_app (q r : List UInt8) : dropSuf q (r ++ q) = some r := by
  unfold dropSuf
  rw [if_pos (List.isSuffixOf_iff_suffix.2 ⟨r, rfl⟩), List.length_append, Nat.add_sub_cancel, List.take_left]
theorem suf_some {q s r : List UInt8} (h : dropSuf q s = some r) : s = r ++ q := by
  unfold dropSuf at h
  by_cases e : q.isSuffixOf s = true
  · rw [if_pos e] at h
    injection h with h
    obtain ⟨p, hp⟩ := List.isSuffixOf_iff_suffix.1 e
    rw [← h, ← hp, List.length_append, Nat.add_sub_cancel, List.take_left]
  · rw [if_neg e] at h; cases h

/-! ### spans, heads -/
def spanL (ahead : Int) (many : Nat) : List UInt8 := Lib.itoa (if 0 < many then ahead + 1 else ahead) ++ [44] ++ Lib.itoa many
def spanOf (s : List UInt8) : Option (Int × Nat) := match cutSub [44] s with
  | none => none
  | some (a, b) => match numOf a with
    | none => none
    | some x => match numOf b with
      | none => none
      | some y => if 0 < y then (if x = 0 then none else some ((x : Int) - 1, y)) else some ((x : Int), y)
theorem itoa_nat (n : Nat) : Lib.itoa n = Lib.decDigits n := by
  unfold Lib.itoa
  rw [if_neg (by omega)]; rfl
theorem span_back {a : Int} {m : Nat} (h0 : 0 ≤ a) (h1 : a < 999) (hm : m < 1000) : spanOf (spanL a m) = some (a, m) := by
  obtain ⟨x, hx, hx3⟩ : ∃ x : Nat, (if 0 < m then a + 1 else a) = (x : Int) ∧ x < 1000 := ⟨(if 0 < m then a + 1 else a).toNat, by split <;> omega, by split <;> omega⟩
  unfold spanOf spanL
  rw [hx, itoa_nat, itoa_nat, cut_at (x := 44) (t := []) _ (fun c hc e => by have := (dec_digit hx3 hc).2; have := (dec_digit hx3 hc).1; rw [e] at this; exact absurd this (by decide))]
  simp only
  rw [num_dec hx3, num_dec hm]
  simp only
  by_cases h : 0 < m
  · rw [if_pos h] at hx ⊢
    rw [if_neg (by omega)]
    congr 2; omega
  · rw [if_neg h] at hx ⊢
    rw [hx]
theorem span_some {s : List UInt8} {a : Int} {m : Nat} (h : spanOf s = some (a, m)) : 0 ≤ a ∧ spanL a m = s := by
  unfold spanOf at h
  cases hc : cutSub [44] s with
  | none => rw [hc] at h; cases h
  | some p =>
    obtain ⟨u, v⟩ := p
    rw [hc] at h
    simp only at h
    cases hu : numOf u with
    | none => rw [hu] at h; cases h
    | some x =>
      rw [hu] at h
      simp only at h
      cases hv : numOf v with
      | none => rw [hv] at h; cases h
      | some y =>
        rw [hv] at h
        simp only at h
        have e := cut_some hc
        obtain ⟨_, e1⟩ := num_some hu
        obtain ⟨_, e2⟩ := num_some hv
        unfold spanL
        by_cases hy : 0 < y
        · rw [if_pos hy] at h
          by_cases hx : x = 0
          · rw [if_pos hx] at h; cases h
          · rw [if_neg hx] at h
            injection h with h
            injection h with h1 h2
            subst h1; subst h2
            refine ⟨by omega, ?_⟩
            rw [if_pos hy, show ((x : Int) - 1 + 1) = (x : Int) by omega, itoa_nat, itoa_nat, e1, e2, e]
        · rw [if_neg hy] at h
          injection h with h
          injection h with h1 h2
          subst h1; subst h2
          refine ⟨by omega, ?_⟩
          rw [if_neg hy, itoa_nat, itoa_nat, e1, e2, e]
def atAt : List UInt8 := [64, 64, 32, 45]
def endAt : List UInt8 := [32, 64, 64]
def headL (a : Int) (x : Nat) (b : Int) (y : Nat) : List UInt8 := atAt ++ (spanL a x ++ [32, 43] ++ spanL b y ++ endAt)
def headOf (s : List UInt8) : Option (Int × Nat × Int × Nat) := match dropPre atAt s with
  | none => none
  | some r => match dropSuf endAt r with
    | none => none
    | some m => match cutSub [32, 43] m with
      | none => none
      | some (u, v) => match spanOf u with
        | none => none
        | some (a, x) => match spanOf v with
          | none => none
          | some (b, y) => some (a, x, b, y)
theorem span_chars {a : Int} {m : Nat} (h0 : 0 ≤ a) (h1 : a < 999) (hm : m < 1000) {c : UInt8} (hc : c ∈ spanL a m) : c.toNat = 44 ∨ (48 ≤ c.toNat ∧ c.toNat ≤ 57) := by
  obtain ⟨x, hx, hx3⟩ : ∃ x : Nat, (if 0 < m then a + 1 else a) = (x : Int) ∧ x < 1000 := ⟨(if 0 < m then a + 1 else a).toNat, by split <;> omega, by split <;> omega⟩
  unfold spanL at hc
  rw [hx, itoa_nat, itoa_nat] at hc
  rcases List.mem_append.1 hc with hc | hc
  · rcases List.mem_append.1 hc with hc | hc
    · exact .inr (dec_digit hx3 hc)
    · rw [List.mem_singleton.1 hc]; exact .inl rfl
  · exact .inr (dec_digit hm hc)
theorem head_back {a b : Int} {x y : Nat} (a0 : 0 ≤ a) (a1 : a < 999) (hx : x < 1000) (b0 : 0 ≤ b) (b1 : b < 999) (hy : y < 1000) : headOf (headL a x b y) = some (a, x, b, y) := by
  unfold headOf headL
  rw [pre_app]
  simp only
  rw [suf_app]
  simp only
  rw [cut_at (x := 32) (t := [43]) _ (fun c hc e => by have := span_chars a0 a1 hx hc; rw [e] at this; exact absurd this (by decide))]
  simp only
  rw [span_back a0 a1 hx, span_back b0 b1 hy]
theorem head_some {s : List UInt8} {a b : Int} {x y : Nat} (h : headOf s = some (a, x, b, y)) : 0 ≤ a ∧ 0 ≤ b ∧ headL a x b y = s := by
  unfold headOf at h
  cases h1 : dropPre atAt s with
  | none => rw [h1] at h; cases h
  | some r =>
    rw [h1] at h
    simp only at h
    cases h2 : dropSuf endAt r with
    | none => rw [h2] at h; cases h
    | some m =>
      rw [h2] at h
      simp only at h
      cases h3 : cutSub [32, 43] m with
      | none => rw [h3] at h; cases h
      | some p =>
        obtain ⟨u, v⟩ := p
        rw [h3] at h
        simp only at h
        cases h4 : spanOf u with
        | none => rw [h4] at h; cases h
        | some p =>
          obtain ⟨a', x'⟩ := p
          rw [h4] at h
          simp only at h
          cases h5 : spanOf v with
          | none => rw [h5] at h; cases h
          | some p =>
            obtain ⟨b', y'⟩ := p
            rw [h5] at h
            injection h with h
            injection h with ea h
            injection h with ex h
            injection h with eb ey
            subst ea; subst ex; subst eb; subst ey
            obtain ⟨q1, q2⟩ := span_some h4
            obtain ⟨q3, q4⟩ := span_some h5
            refine ⟨q1, q3, ?_⟩
            unfold headL
            rw [q2, q4, pre_some h1, suf_some h2, cut_some h3]
end Go.Proofs.YtmojaahkcpgfkaaGreatDoor
namespace Go.Proofs.YtmojaahkcpgfkaaGreatDoor

def signOf (m : Mark) : UInt8 := UInt8.ofNat m.sign.toNat
def markL (m : Mark) : List UInt8 := signOf m :: m.text.data.toList
def hunkL (h : Hunk) : List (List UInt8) := headL h.old (oldN h.marks) h.new (newN h.marks) :: h.marks.map markL
def linesU (l : List Hunk) : List (List UInt8) := l.flatMap hunkL
def textL (l : List (List UInt8)) : List UInt8 := (l.map fun x => x ++ [10]).flatten
def textU (l : List Hunk) : List UInt8 := textL (linesU l)
def addMark : List Hunk → Mark → List Hunk
  | [], _ => []
  | [h], m => [⟨h.old, h.new, h.marks ++ [m]⟩]
  | h :: k :: r, m => h :: addMark (k :: r) m
/-- a line is read: what is there then, how many marks are needed still -/
def readLine (hs : List Hunk) (o n : Nat) (s : List UInt8) : Option (List Hunk × Nat × Nat) :=
  if 0 < o ∨ 0 < n then match s with
    | [] => none
    | c :: r => if c = 32 ∧ 0 < o ∧ 0 < n then some (addMark hs ⟨32, toB r⟩, o - 1, n - 1)
      else if c = 45 ∧ 0 < o then some (addMark hs ⟨45, toB r⟩, o - 1, n)
      else if c = 43 ∧ 0 < n then some (addMark hs ⟨43, toB r⟩, o, n - 1) else none
  else match headOf s with
    | none => none
    | some (a, x, b, y) => some (hs ++ [⟨a, b, []⟩], x, y)
/-- lines are read from a number on: the number of the one that is not, or none -/
def goU : List (List UInt8) → Nat → List Hunk → Nat → Nat → Option Nat × List Hunk × Nat × Nat
  | [], _, hs, o, n => (none, hs, o, n)
  | s :: r, i, hs, o, n => match readLine hs o n s with
    | none => (some i, hs, o, n)
    | some (hs', o', n') => goU r (i + 1) hs' o' n'
theorem go_cons {s : List UInt8} {hs hs' : List Hunk} {o n o' n' : Nat} (h : readLine hs o n s = some (hs', o', n')) (r : List (List UInt8)) (i : Nat) : goU (s :: r) i hs o n = goU r (i + 1) hs' o' n' := by rw [goU, h]
theorem add_mark : ∀ (hs : List Hunk) (h : Hunk) (m : Mark), addMark (hs ++ [h]) m = hs ++ [⟨h.old, h.new, h.marks ++ [m]⟩]
  | [], _, _ => rfl
  | [k], h, m => rfl
  | k :: j :: r, h, m => by
    have := add_mark (j :: r) h m
    rw [List.cons_append, List.cons_append] at *
    rw [addMark, this]; rfl
def SignOk (m : Mark) : Prop := m.sign = 32 ∨ m.sign = 45 ∨ m.sign = 43
theorem oldN_cons (m : Mark) (ms : List Mark) : oldN (m :: ms) = (if m.sign ≠ 43 then 1 else 0) + oldN ms := by
  unfold oldN those
  rw [List.filter_cons]
  by_cases h : m.sign = 43
  · rw [if_neg (by simp [h]), if_neg (by simp [h]), Nat.zero_add]
  · rw [if_pos (by simp [h]), if_pos h, List.map_cons, List.length_cons, Nat.add_comm]
theorem newN_cons (m : Mark) (ms : List Mark) : newN (m :: ms) = (if m.sign ≠ 45 then 1 else 0) + newN ms := by
  unfold newN those
  rw [List.filter_cons]
  by_cases h : m.sign = 45
  · rw [if_neg (by simp [h]), if_neg (by simp [h]), Nat.zero_add]
  · rw [if_pos (by simp [h]), if_pos h, List.map_cons, List.length_cons, Nat.add_comm]
theorem oldN_app : ∀ (a b : List Mark), oldN (a ++ b) = oldN a + oldN b
  | [], b => by rw [List.nil_append]; show _ = 0 + _; rw [Nat.zero_add]
  | m :: a, b => by rw [List.cons_append, oldN_cons, oldN_cons, oldN_app a b, Nat.add_assoc]
theorem newN_app : ∀ (a b : List Mark), newN (a ++ b) = newN a + newN b
  | [], b => by rw [List.nil_append]; show _ = 0 + _; rw [Nat.zero_add]
  | m :: a, b => by rw [List.cons_append, newN_cons, newN_cons, newN_app a b, Nat.add_assoc]
/-- a mark is read -/
theorem read_mark {m : Mark} (hm : SignOk m) {o n : Nat} (hs : List Hunk) (h : Hunk) :
    readLine (hs ++ [h]) ((if m.sign ≠ 43 then 1 else 0) + o) ((if m.sign ≠ 45 then 1 else 0) + n) (markL m) = some (hs ++ [⟨h.old, h.new, h.marks ++ [m]⟩], o, n) := by
  obtain ⟨sg, tx⟩ := m
  unfold readLine markL signOf
  rcases hm with e | e | e <;> simp only at e <;> subst e
  · rw [if_pos (by simp; omega)]
    simp only
    rw [if_pos ⟨rfl, by simp; omega, by simp; omega⟩, add_mark, toB_of]
    simp
  · rw [if_pos (by simp; omega)]
    simp only
    rw [if_neg (by rintro ⟨q, _⟩; exact absurd q (by decide)), if_pos ⟨rfl, by simp; omega⟩, add_mark, toB_of]
    simp
  · rw [if_pos (by simp; omega)]
    simp only
    rw [if_neg (by rintro ⟨q, _⟩; exact absurd q (by decide)), if_neg (by rintro ⟨q, _⟩; exact absurd q (by decide)), if_pos ⟨rfl, by simp; omega⟩, add_mark, toB_of]
    simp
theorem go_marks (rest : List (List UInt8)) (hs : List Hunk) (a b : Int) : ∀ (ms done : List Mark) (i o n : Nat), (∀ m ∈ ms, SignOk m) →
    goU (ms.map markL ++ rest) i (hs ++ [⟨a, b, done⟩]) (oldN ms + o) (newN ms + n) = goU rest (i + ms.length) (hs ++ [⟨a, b, done ++ ms⟩]) o n
  | [], done, i, o, n, _ => by
    show goU rest i _ (0 + o) (0 + n) = _
    rw [Nat.zero_add, Nat.zero_add, List.append_nil]; rfl
  | m :: ms, done, i, o, n, h => by
    rw [oldN_cons, newN_cons, Nat.add_assoc, Nat.add_assoc, List.map_cons, List.cons_append, go_cons (read_mark (h m (List.mem_cons_self ..)) hs _), go_marks rest hs a b ms (done ++ [m]) (i + 1) o n (fun k hk => h k (List.mem_cons_of_mem _ hk))]
    rw [List.append_assoc, List.length_cons, show i + 1 + ms.length = i + (ms.length + 1) by omega]; rfl
/-- a hunk that may be written -/
def HeadOk (h : Hunk) : Prop := 0 ≤ h.old ∧ h.old < 999 ∧ 0 ≤ h.new ∧ h.new < 999 ∧ oldN h.marks < 1000 ∧ newN h.marks < 1000 ∧ ∀ m ∈ h.marks, SignOk m
theorem go_hunk {h : Hunk} (hh : HeadOk h) (rest : List (List UInt8)) (hs : List Hunk) (i : Nat) : goU (hunkL h ++ rest) i hs 0 0 = goU rest (i + (hunkL h).length) (hs ++ [h]) 0 0 := by
  obtain ⟨h1, h2, h3, h4, h5, h6, h7⟩ := hh
  unfold hunkL
  have e : readLine hs 0 0 (headL h.old (oldN h.marks) h.new (newN h.marks)) = some (hs ++ [⟨h.old, h.new, []⟩], oldN h.marks, newN h.marks) := by
    unfold readLine
    rw [if_neg (by omega), head_back h1 h2 h5 h3 h4 h6]
  rw [List.cons_append, go_cons e]
  have := go_marks rest hs h.old h.new h.marks [] (i + 1) 0 0 h7
  simp only [Nat.add_zero, List.nil_append] at this
  rw [this, List.length_cons, List.length_map, show i + 1 + h.marks.length = i + (h.marks.length + 1) by omega]
theorem go_hunks (rest : List (List UInt8)) : ∀ (l hs : List Hunk) (i : Nat), (∀ h ∈ l, HeadOk h) → goU (linesU l ++ rest) i hs 0 0 = goU rest (i + (linesU l).length) (hs ++ l) 0 0
  | [], hs, i, _ => by rw [List.append_nil]; rfl
  | h :: l, hs, i, hl => by
    have e : linesU (h :: l) = hunkL h ++ linesU l := rfl
    rw [e, List.append_assoc, go_hunk (hl h (List.mem_cons_self ..)), go_hunks rest l (hs ++ [h]) _ (fun k hk => hl k (List.mem_cons_of_mem _ hk)), List.append_assoc, List.length_append, Nat.add_assoc]
    rfl

/-! ### what is read was written so -/
/-- the lines so far: the last hunk's head says how many lines it will have -/
def linesP (hs : List Hunk) (h : Hunk) (o n : Nat) : List (List UInt8) := linesU hs ++ headL h.old (oldN h.marks + o) h.new (newN h.marks + n) :: h.marks.map markL
theorem linesP_full (hs : List Hunk) (h : Hunk) : linesP hs h 0 0 = linesU (hs ++ [h]) := by
  unfold linesP linesU
  rw [List.flatMap_append, List.flatMap_singleton]; rfl
theorem linesP_mark {hs : List Hunk} {h : Hunk} {m : Mark} {o n : Nat} :
    linesP hs ⟨h.old, h.new, h.marks ++ [m]⟩ o n = linesP hs h ((if m.sign ≠ 43 then 1 else 0) + o) ((if m.sign ≠ 45 then 1 else 0) + n) ++ [markL m] := by
  unfold linesP
  simp only
  rw [oldN_app, newN_app, oldN_cons, newN_cons, show oldN [] = 0 from rfl, show newN [] = 0 from rfl, Nat.add_zero, Nat.add_zero, List.map_append, Nat.add_assoc, Nat.add_assoc, List.append_assoc, List.cons_append]
  rfl
/-- what stands so far, and the marks that are there have signs -/
def Soff (pre : List (List UInt8)) (hs : List Hunk) (o n : Nat) : Prop :=
  (∀ h ∈ hs, ∀ m ∈ h.marks, SignOk m) ∧ ((o = 0 ∧ n = 0 ∧ pre = linesU hs) ∨ (∃ hs' h, hs = hs' ++ [h] ∧ pre = linesP hs' h o n))
theorem mark_soff {hs : List Hunk} {h : Hunk} {m : Mark} (hm : SignOk m) {o n o' n' : Nat} (ho : o = (if m.sign ≠ 43 then 1 else 0) + o') (hn : n = (if m.sign ≠ 45 then 1 else 0) + n') (hg : ∀ k ∈ hs ++ [h], ∀ m ∈ k.marks, SignOk m) :
    Soff (linesP hs h o n ++ [markL m]) (addMark (hs ++ [h]) m) o' n' := by
  rw [add_mark]
  refine ⟨fun k hk x hx => ?_, .inr ⟨hs, _, rfl, by rw [linesP_mark, ho, hn]⟩⟩
  rcases List.mem_append.1 hk with hk | hk
  · exact hg k (List.mem_append_left _ hk) x hx
  · rw [List.mem_singleton.1 hk] at hx
    rcases List.mem_append.1 hx with hx | hx
    · exact hg h (List.mem_append_right _ (List.mem_singleton.2 rfl)) x hx
    · rw [List.mem_singleton.1 hx]; exact hm
theorem line_soff {pre : List (List UInt8)} {hs hs' : List Hunk} {o n o' n' : Nat} {s : List UInt8} (hp : Soff pre hs o n) (h : readLine hs o n s = some (hs', o', n')) : Soff (pre ++ [s]) hs' o' n' := by
  obtain ⟨hg, hp⟩ := hp
  unfold readLine at h
  by_cases hon : 0 < o ∨ 0 < n
  · rw [if_pos hon] at h
    obtain ⟨hs0, hk, rfl, rfl⟩ : ∃ hs0 hk, hs = hs0 ++ [hk] ∧ pre = linesP hs0 hk o n := by
      rcases hp with ⟨a, b, _⟩ | q
      · omega
      · exact q
    cases s with
    | nil => cases h
    | cons c r =>
      simp only at h
      have hmk : ∀ (sg : Int) (u : UInt8), UInt8.ofNat sg.toNat = u → u :: r = markL ⟨sg, toB r⟩ := fun sg u e => by unfold markL signOf; rw [toB_data]; simp only; rw [e]
      by_cases h1 : c = 32 ∧ 0 < o ∧ 0 < n
      · rw [if_pos h1] at h
        injection h with h
        injection h with e1 h
        injection h with e2 e3
        subst e1; subst e2; subst e3
        rw [h1.1, hmk 32 32 rfl]
        exact mark_soff (.inl rfl) (by simp; omega) (by simp; omega) hg
      · rw [if_neg h1] at h
        by_cases h2 : c = 45 ∧ 0 < o
        · rw [if_pos h2] at h
          injection h with h
          injection h with e1 h
          injection h with e2 e3
          subst e1; subst e2; subst e3
          rw [h2.1, hmk 45 45 rfl]
          exact mark_soff (.inr (.inl rfl)) (by simp; omega) (by simp) hg
        · rw [if_neg h2] at h
          by_cases h3 : c = 43 ∧ 0 < n
          · rw [if_pos h3] at h
            injection h with h
            injection h with e1 h
            injection h with e2 e3
            subst e1; subst e2; subst e3
            rw [h3.1, hmk 43 43 rfl]
            exact mark_soff (.inr (.inr rfl)) (by simp) (by simp; omega) hg
          · rw [if_neg h3] at h; cases h
  · rw [if_neg hon] at h
    have ho : o = 0 := by omega
    have hn : n = 0 := by omega
    subst ho; subst hn
    have epre : pre = linesU hs := by
      rcases hp with ⟨_, _, q⟩ | ⟨a, b, rfl, q⟩
      · exact q
      · rw [q, linesP_full]
    cases hd : headOf s with
    | none => rw [hd] at h; cases h
    | some p =>
      obtain ⟨a, x, b, y⟩ := p
      rw [hd] at h
      injection h with h
      injection h with e1 h
      injection h with e2 e3
      subst e1; subst e2; subst e3
      obtain ⟨_, _, q⟩ := head_some hd
      refine ⟨fun k hk m hm => ?_, .inr ⟨hs, ⟨a, b, []⟩, rfl, ?_⟩⟩
      · rcases List.mem_append.1 hk with hk | hk
        · exact hg k hk m hm
        · rw [List.mem_singleton.1 hk] at hm; cases hm
      · unfold linesP
        rw [epre, ← q]
        show _ = linesU hs ++ headL a (0 + x) b (0 + y) :: []
        rw [Nat.zero_add, Nat.zero_add]
theorem go_soff : ∀ (l : List (List UInt8)) {pre : List (List UInt8)} {hs hs' : List Hunk} {i o n o' n' : Nat}, Soff pre hs o n → goU l i hs o n = (none, hs', o', n') → Soff (pre ++ l) hs' o' n'
  | [], pre, hs, hs', i, o, n, o', n', hp, h => by
    rw [goU] at h
    injection h with _ h
    injection h with e1 h
    injection h with e2 e3
    subst e1; subst e2; subst e3
    rw [List.append_nil]; exact hp
  | s :: r, pre, hs, hs', i, o, n, o', n', hp, h => by
    rw [goU] at h
    cases hr : readLine hs o n s with
    | none =>
      rw [hr] at h
      injection h with h _
      cases h
    | some p =>
      obtain ⟨h1, o1, n1⟩ := p
      rw [hr] at h
      have := go_soff r (line_soff hp hr) h
      rwa [List.append_assoc] at this
/-- what was read to its end was written so -/
theorem read_lines {l : List (List UInt8)} {hs : List Hunk} {i : Nat} (h : goU l i [] 0 0 = (none, hs, 0, 0)) : linesU hs = l := by
  have := go_soff l (pre := []) ⟨fun k hk => (by cases hk), .inl ⟨rfl, rfl, rfl⟩⟩ h
  rw [List.nil_append] at this
  rcases this.2 with ⟨_, _, q⟩ | ⟨a, b, rfl, q⟩
  · exact q.symm
  · rw [q, linesP_full]
end Go.Proofs.YtmojaahkcpgfkaaGreatDoor
namespace Go.Proofs.YtmojaahkcpgfkaaGreatDoor

theorem parts_text : ∀ (ls : List (List UInt8)) (r : List UInt8), (∀ x ∈ ls, ∀ c ∈ x, c ≠ 10) → parts 10 (textL ls ++ r) = ls ++ parts 10 r
  | [], _, _ => rfl
  | x :: ls, r, h => by
    have e : textL (x :: ls) ++ r = x ++ 10 :: (textL ls ++ r) := by
      show (x ++ [10] ++ textL ls) ++ r = _
      simp
    rw [e, parts_cut _ (h x (List.mem_cons_self ..)), parts_text ls r fun y hy => h y (List.mem_cons_of_mem _ hy)]
    rfl
/-- the place of a fault, the fault -/
def parseU (s : List UInt8) : List Hunk × Nat × Int :=
  if 400000 < s.length then ([], 0, 5) else match goU (parts 10 s).dropLast 0 [] 0 0 with
  | (some i, _, _, _) => ([], i, 5)
  | (none, hs, o, n) => if 0 < o ∨ 0 < n ∨ (parts 10 s).getLast? ≠ some [] then ([], (parts 10 s).length - 1, 5) else if (hunksFault hs).2 ≠ 0 then ([], 0, (hunksFault hs).2) else (hs, 0, 0)

/-! ### hunks that may be -/
theorem mark_ok {m : Mark} (h : markFault m = 0) : SignOk m ∧ (∀ c ∈ m.text.data.toList, c ≠ 10) ∧ m.text.size ≤ 80 := by
  unfold markFault at h
  by_cases hs : m.sign ≠ 32 ∧ m.sign ≠ 45 ∧ m.sign ≠ 43
  · rw [if_pos hs] at h; cases h
  · rw [if_neg hs] at h
    unfold lineFault at h
    cases hn : hasNl m.text with
    | true => rw [hn] at h; cases h
    | false =>
      rw [hn] at h
      refine ⟨?_, fun c hc e => ?_, ?_⟩
      · unfold SignOk
        by_cases h1 : m.sign = 32
        · exact .inl h1
        · by_cases h2 : m.sign = 45
          · exact .inr (.inl h2)
          · by_cases h3 : m.sign = 43
            · exact .inr (.inr h3)
            · exact absurd ⟨h1, h2, h3⟩ hs
      · subst e
        unfold hasNl at hn
        rw [List.contains_iff_mem.2 hc] at hn; cases hn
      · by_cases hz : 80 < m.text.size
        · rw [if_neg (by decide), if_pos hz] at h; cases h
        · omega
theorem marks_ok {ms : List Mark} (h : scriptFault ms = 0) : ∀ m ∈ ms, markFault m = 0 := by
  unfold scriptFault at h
  by_cases hl : 120 < ms.length
  · rw [if_pos hl] at h; cases h
  · rw [if_neg hl] at h
    exact (firstOf_zero markFault ms).1 h
theorem one_ok {h : Hunk} {fin more : Int} (e : oneFault h fin more = 0) : (∀ m ∈ h.marks, markFault m = 0) ∧ 0 ≤ h.old ∧ 0 ≤ h.new ∧ h.old + oldN h.marks ≤ 60 ∧ h.new + newN h.marks ≤ 60 ∧ fin ≤ h.old ∧ h.new = h.old + more := by
  unfold oneFault at e
  by_cases h1 : scriptFault h.marks ≠ 0
  · rw [if_pos h1] at e; exact absurd e h1
  · rw [if_neg h1] at e
    by_cases h2 : hasChange h.marks = false
    · rw [if_pos h2] at e; cases e
    · rw [if_neg h2] at e
      by_cases h3 : h.old < 0 ∨ 60 < h.old ∨ h.new < 0 ∨ 60 < h.new ∨ 60 < h.old + oldN h.marks ∨ 60 < h.new + newN h.marks
      · rw [if_pos h3] at e; cases e
      · rw [if_neg h3] at e
        by_cases h4 : h.old < fin ∨ h.new ≠ h.old + more
        · rw [if_pos h4] at e; cases e
        · refine ⟨marks_ok (by simpa using h1), ?_, ?_, ?_, ?_, ?_, ?_⟩ <;> omega
theorem one_head {h : Hunk} {fin more : Int} (e : oneFault h fin more = 0) : HeadOk h := by
  obtain ⟨q1, q2, q3, q4, q5, _⟩ := one_ok e
  exact ⟨q2, by omega, q3, by omega, by omega, by omega, fun m hm => (mark_ok (q1 m hm)).1⟩
theorem dec_len {n : Nat} (h : n < 1000) : (Lib.decDigits n).length ≤ 3 := by rw [digits_three h]; exact dec3_len n h
theorem span_len {a : Int} {m : Nat} (h0 : 0 ≤ a) (h1 : a < 999) (hm : m < 1000) : (spanL a m).length ≤ 7 := by
  obtain ⟨x, hx, hx3⟩ : ∃ x : Nat, (if 0 < m then a + 1 else a) = (x : Int) ∧ x < 1000 := ⟨(if 0 < m then a + 1 else a).toNat, by split <;> omega, by split <;> omega⟩
  unfold spanL
  rw [hx, itoa_nat, itoa_nat, List.length_append, List.length_append]
  have := dec_len hx3
  have := dec_len hm
  simp only [List.length_singleton]
  omega
theorem head_len {h : Hunk} (hh : HeadOk h) : (headL h.old (oldN h.marks) h.new (newN h.marks)).length ≤ 23 := by
  obtain ⟨h1, h2, h3, h4, h5, h6, _⟩ := hh
  have := span_len h1 h2 h5
  have := span_len h3 h4 h6
  unfold headL atAt endAt
  simp only [List.length_append, List.length_cons, List.length_nil]
  omega
theorem marks_len : ∀ (ms : List Mark), (∀ m ∈ ms, markFault m = 0) → (textL (ms.map markL)).length ≤ 82 * (oldN ms + newN ms)
  | [], _ => by simp [textL]
  | m :: ms, h => by
    have ih := marks_len ms fun k hk => h k (List.mem_cons_of_mem _ hk)
    obtain ⟨q1, _, q3⟩ := mark_ok (h m (List.mem_cons_self ..))
    have e : (textL ((m :: ms).map markL)).length = m.text.size + 2 + (textL (ms.map markL)).length := by
      show (markL m ++ [10] ++ textL (ms.map markL)).length = _
      unfold markL
      simp only [List.length_append, List.length_cons, List.length_nil, Array.length_toList, ByteArray.size_data]
    rw [e, oldN_cons, newN_cons]
    have : 1 ≤ (if m.sign ≠ 43 then 1 else 0) + (if m.sign ≠ 45 then 1 else 0) := by
      rcases q1 with q | q | q <;> rw [q] <;> decide
    omega
theorem textL_app (a b : List (List UInt8)) : textL (a ++ b) = textL a ++ textL b := by unfold textL; rw [List.map_append, List.flatten_append]
theorem hunk_len {h : Hunk} {fin more : Int} (e : oneFault h fin more = 0) : (textL (hunkL h)).length ≤ 24 + 82 * (oldN h.marks + newN h.marks) := by
  have h1 := head_len (one_head e)
  have h2 := marks_len h.marks (one_ok e).1
  have : (textL (hunkL h)).length = (headL h.old (oldN h.marks) h.new (newN h.marks)).length + 1 + (textL (h.marks.map markL)).length := by
    show (headL h.old (oldN h.marks) h.new (newN h.marks) ++ [10] ++ textL (h.marks.map markL)).length = _
    simp only [List.length_append, List.length_singleton]
  omega
theorem go_ok : ∀ (l : List Hunk) (i : Nat) (fin more : Int), fin ≤ 60 → fin + more ≤ 60 → (hunksGo i fin more l).2 = 0 →
    (∀ h ∈ l, HeadOk h) ∧ (∀ x ∈ linesU l, ∀ c ∈ x, c ≠ 10) ∧ ((textL (linesU l)).length : Int) ≤ 24 * l.length + 82 * ((60 - fin) + (60 - fin - more))
  | [], _, fin, more, h1, h2, _ => ⟨fun _ h => (by cases h), fun _ h => (by cases h), by show (0 : Int) ≤ 24 * 0 + _; omega⟩
  | h :: l, i, fin, more, h1, h2, e => by
    rw [hunksGo] at e
    by_cases h0 : oneFault h fin more = 0
    · rw [if_pos h0] at e
      obtain ⟨q1, q2, q3, q4, q5, q6, q7⟩ := one_ok h0
      obtain ⟨i1, i2, i3⟩ := go_ok l (i + 1) (h.old + oldN h.marks) (more + newN h.marks - oldN h.marks) (by omega) (by omega) e
      have hl := hunk_len h0
      have eu : linesU (h :: l) = hunkL h ++ linesU l := rfl
      refine ⟨fun k hk => ?_, fun x hx c hc => ?_, ?_⟩
      · rcases List.mem_cons.1 hk with rfl | hk
        · exact one_head h0
        · exact i1 k hk
      · rw [eu] at hx
        rcases List.mem_append.1 hx with hx | hx
        · obtain ⟨a1, a2, a3, a4, a5, a6, a7⟩ := one_head h0
          rcases List.mem_cons.1 hx with rfl | hx
          · have dig : ∀ {a : Int} {m : Nat}, 0 ≤ a → a < 999 → m < 1000 → ∀ d ∈ spanL a m, d ≠ 10 := fun b0 b1 b2 d hd e => by
              have := span_chars b0 b1 b2 hd
              rw [e] at this
              exact absurd this (by decide)
            unfold headL atAt endAt at hc
            intro e
            rcases List.mem_append.1 hc with hc | hc
            · rw [e] at hc; exact absurd hc (by decide)
            · rcases List.mem_append.1 hc with hc | hc
              · rcases List.mem_append.1 hc with hc | hc
                · rcases List.mem_append.1 hc with hc | hc
                  · exact dig a1 a2 a5 c hc e
                  · rw [e] at hc; exact absurd hc (by decide)
                · exact dig a3 a4 a6 c hc e
              · rw [e] at hc; exact absurd hc (by decide)
          · obtain ⟨m, hm, rfl⟩ := List.mem_map.1 hx
            obtain ⟨s1, s2, _⟩ := mark_ok (q1 m hm)
            rcases List.mem_cons.1 hc with rfl | hc
            · unfold signOf
              rcases s1 with s | s | s <;> rw [s] <;> decide
            · exact s2 c hc
        · exact i2 x hx c hc
      · rw [eu, textL_app, List.length_append, List.length_cons]
        omega
    · rw [if_neg h0] at e
      exact absurd e h0
theorem hunks_ok {l : List Hunk} (e : (hunksFault l).2 = 0) : (∀ h ∈ l, HeadOk h) ∧ (∀ x ∈ linesU l, ∀ c ∈ x, c ≠ 10) ∧ (textU l).length ≤ 400000 := by
  unfold hunksFault at e
  by_cases hl : 60 < l.length
  · rw [if_pos hl] at e; cases e
  · rw [if_neg hl] at e
    obtain ⟨h1, h2, h3⟩ := go_ok l 0 0 0 (by decide) (by decide) e
    refine ⟨h1, h2, ?_⟩
    show (textL (linesU l)).length ≤ _
    omega
/-- what is printed is read -/
theorem print_parse {l : List Hunk} (e : (hunksFault l).2 = 0) : parseU (textU l) = (l, 0, 0) := by
  obtain ⟨h1, h2, h3⟩ := hunks_ok e
  unfold parseU
  rw [if_neg (by omega)]
  have hp : parts 10 (textU l) = linesU l ++ [[]] := by
    have := parts_text (linesU l) [] h2
    rwa [List.append_nil] at this
  have hg : goU (linesU l) 0 [] 0 0 = (none, l, 0, 0) := by
    have := go_hunks [] l [] 0 h1
    rwa [List.append_nil] at this
  rw [hp, List.dropLast_concat, hg]
  simp only
  rw [if_neg (by rw [List.getLast?_append]; simp), if_neg (by rw [e]; simp)]
/-- what is read is printed so -/
theorem parse_print {s : List UInt8} {hs : List Hunk} {p : Nat} (h : parseU s = (hs, p, 0)) : textU hs = s ∧ (hunksFault hs).2 = 0 ∧ p = 0 := by
  unfold parseU at h
  by_cases hl : 400000 < s.length
  · rw [if_pos hl] at h
    injection h with _ h
    injection h with _ h
    cases h
  · rw [if_neg hl] at h
    cases hg : goU (parts 10 s).dropLast 0 [] 0 0 with
    | mk a b =>
      obtain ⟨hs', o, n⟩ := b
      rw [hg] at h
      cases a with
      | some i =>
        injection h with _ h
        injection h with _ h
        cases h
      | none =>
        simp only at h
        by_cases hc : 0 < o ∨ 0 < n ∨ (parts 10 s).getLast? ≠ some []
        · rw [if_pos hc] at h
          injection h with _ h
          injection h with _ h
          cases h
        · rw [if_neg hc] at h
          by_cases hf : (hunksFault hs').2 ≠ 0
          · rw [if_pos hf] at h
            injection h with _ h
            injection h with _ h
            exact absurd h hf
          · rw [if_neg hf] at h
            injection h with h1 h
            injection h with h2 _
            subst h1
            have ho : o = 0 := by omega
            have hn : n = 0 := by omega
            subst ho; subst hn
            have el := read_lines hg
            have hlast : (parts 10 s).getLast? = some [] := by
              by_cases q : (parts 10 s).getLast? = some []
              · exact q
              · exact absurd (.inr (.inr q)) hc
            refine ⟨?_, by simpa using hf, h2.symm⟩
            have := parts_flat 10 s
            rw [hlast, ← el] at this
            simpa [textU, textL] using this
/-- cut off within the last line: it is none, and not at once -/
theorem parse_cut {l : List Hunk} {ls : List (List UInt8)} {x y : List UInt8} (e : (hunksFault l).2 = 0) (hl : linesU l = ls ++ [x]) (hy : y ≠ []) (hy10 : ∀ c ∈ y, c ≠ 10) (hlen : y.length ≤ x.length)
    {hs : List Hunk} {o n : Nat} (hg : goU ls 0 [] 0 0 = (none, hs, o, n)) : parseU (textL ls ++ y) = ([], ls.length, 5) := by
  obtain ⟨h1, h2, h3⟩ := hunks_ok e
  have hln : (textL ls ++ y).length ≤ 400000 := by
    have : (textU l).length = (textL ls).length + (x.length + 1) := by
      show (textL (linesU l)).length = _
      rw [hl, textL_app, List.length_append]
      show _ + (x ++ [10] ++ []).length = _
      simp
    rw [List.length_append]; omega
  unfold parseU
  rw [if_neg (by omega)]
  have hp : parts 10 (textL ls ++ y) = ls ++ [y] := by
    rw [parts_text ls y fun z hz => h2 z (by rw [hl]; exact List.mem_append_left _ hz), parts_none hy10]
  rw [hp, List.dropLast_concat, hg]
  simp only
  rw [if_pos (.inr (.inr (by rw [List.getLast?_append]; simpa using hy)))]
  simp
end Go.Proofs.YtmojaahkcpgfkaaGreatDoor
namespace Go.Proofs.YtmojaahkcpgfkaaGreatDoor

def noneL : List UInt8 := [47, 100, 101, 118, 47, 110, 117, 108, 108]
def mmL : List UInt8 := [45, 45, 45, 32]
def ppL : List UInt8 := [43, 43, 43, 32]
def fromL (w : Int) (p : List UInt8) : List UInt8 := if w = 2 then noneL else [97, 47] ++ p
def toL (w : Int) (p : List UInt8) : List UInt8 := if w = 3 then noneL else [98, 47] ++ p
def changeL (c : Change) : List (List UInt8) := (mmL ++ fromL c.what c.path.data.toList) :: (ppL ++ toL c.what c.path.data.toList) :: linesU c.hunks
def linesG (p : List Change) : List (List UInt8) := p.flatMap changeL
/-- what two lines say -/
def headedR (a b : List UInt8) : Option (Int × List UInt8) := match dropPre [97, 47] a, dropPre [98, 47] b with
  | some f, some t => if f = t then some (1, f) else none
  | none, some t => if a = noneL then some (2, t) else none
  | some f, none => if b = noneL then some (3, f) else none
  | none, none => none
def headedL (a b : List UInt8) : Option (Int × List UInt8) := match dropPre mmL a, dropPre ppL b with
  | some a, some b => headedR a b
  | _, _ => none
theorem headed_back {w : Int} (p : List UInt8) (h : w = 1 ∨ w = 2 ∨ w = 3) : headedL (mmL ++ fromL w p) (ppL ++ toL w p) = some (w, p) := by
  unfold headedL
  rw [pre_app, pre_app]
  simp only
  unfold headedR
  rcases h with rfl | rfl | rfl
  · rw [show fromL 1 p = [97, 47] ++ p from rfl, show toL 1 p = [98, 47] ++ p from rfl, pre_app, pre_app]
    simp
  · rw [show fromL 2 p = noneL from rfl, show toL 2 p = [98, 47] ++ p from rfl, pre_app, show dropPre [97, 47] noneL = none from rfl]
    simp
  · rw [show fromL 3 p = [97, 47] ++ p from rfl, show toL 3 p = noneL from rfl, pre_app, show dropPre [98, 47] noneL = none from rfl]
    simp
theorem headed_some {a b p : List UInt8} {w : Int} (h : headedL a b = some (w, p)) : (w = 1 ∨ w = 2 ∨ w = 3) ∧ a = mmL ++ fromL w p ∧ b = ppL ++ toL w p := by
  unfold headedL at h
  cases ha : dropPre mmL a with
  | none => rw [ha] at h; cases h
  | some x =>
    cases hb : dropPre ppL b with
    | none => rw [ha, hb] at h; cases h
    | some y =>
      rw [ha, hb] at h
      simp only at h
      rw [pre_some ha, pre_some hb]
      unfold headedR at h
      cases hf : dropPre [97, 47] x with
      | none =>
        cases ht : dropPre [98, 47] y with
        | none => rw [hf, ht] at h; cases h
        | some t =>
          rw [hf, ht] at h
          simp only at h
          by_cases e : x = noneL
          · rw [if_pos e] at h
            injection h with h
            injection h with h1 h2
            subst h1; subst h2
            exact ⟨.inr (.inl rfl), by rw [e]; rfl, by rw [pre_some ht]; rfl⟩
          · rw [if_neg e] at h; cases h
      | some f =>
        cases ht : dropPre [98, 47] y with
        | none =>
          rw [hf, ht] at h
          simp only at h
          by_cases e : y = noneL
          · rw [if_pos e] at h
            injection h with h
            injection h with h1 h2
            subst h1; subst h2
            exact ⟨.inr (.inr rfl), by rw [pre_some hf]; rfl, by rw [e]; rfl⟩
          · rw [if_neg e] at h; cases h
        | some t =>
          rw [hf, ht] at h
          simp only at h
          by_cases e : f = t
          · rw [if_pos e] at h
            injection h with h
            injection h with h1 h2
            subst h1; subst h2
            exact ⟨.inl rfl, by rw [pre_some hf]; rfl, by rw [pre_some ht, e]; rfl⟩
          · rw [if_neg e] at h; cases h
def hunkHead (s : List UInt8) : Bool := [64, 64].isPrefixOf s
/-- hunks are read as long as there are some: these, the lines behind -/
def takeU : List (List UInt8) → List Hunk → Nat → Nat → Option (List Hunk × List (List UInt8))
  | [], hs, o, n => if 0 < o ∨ 0 < n then none else some (hs, [])
  | s :: r, hs, o, n => if (0 < o ∨ 0 < n) ∨ hunkHead s = true then match readLine hs o n s with
      | none => none
      | some (hs', o', n') => takeU r hs' o' n'
    else some (hs, s :: r)
def changesG : Nat → List (List UInt8) → Option (List Change)
  | _, [] => some []
  | 0, _ :: _ => none
  | _ + 1, [_] => none
  | k + 1, a :: b :: r => match headedL a b with
    | none => none
    | some (w, p) => match takeU r [] 0 0 with
      | none => none
      | some (hs, rest) => (changesG k rest).map fun q => ⟨w, toB p, hs⟩ :: q
theorem take_cons {s : List UInt8} {hs hs' : List Hunk} {o n o' n' : Nat} (h0 : (0 < o ∨ 0 < n) ∨ hunkHead s = true) (h : readLine hs o n s = some (hs', o', n')) (r : List (List UInt8)) : takeU (s :: r) hs o n = takeU r hs' o' n' := by
  rw [takeU, if_pos h0, h]
theorem take_marks (rest : List (List UInt8)) (hs : List Hunk) (a b : Int) : ∀ (ms done : List Mark) (o n : Nat), (∀ m ∈ ms, SignOk m) →
    takeU (ms.map markL ++ rest) (hs ++ [⟨a, b, done⟩]) (oldN ms + o) (newN ms + n) = takeU rest (hs ++ [⟨a, b, done ++ ms⟩]) o n
  | [], done, o, n, _ => by
    show takeU rest _ (0 + o) (0 + n) = _
    rw [Nat.zero_add, Nat.zero_add, List.append_nil]
  | m :: ms, done, o, n, h => by
    have h1 := h m (List.mem_cons_self ..)
    have hop : 0 < (if m.sign ≠ 43 then 1 else 0) + (oldN ms + o) ∨ 0 < (if m.sign ≠ 45 then 1 else 0) + (newN ms + n) := by
      rcases h1 with e | e | e <;> rw [e] <;> simp <;> omega
    rw [oldN_cons, newN_cons, Nat.add_assoc, Nat.add_assoc, List.map_cons, List.cons_append, take_cons (.inl hop) (read_mark h1 hs _), take_marks rest hs a b ms (done ++ [m]) o n (fun k hk => h k (List.mem_cons_of_mem _ hk)), List.append_assoc]
    rfl
theorem take_hunk {h : Hunk} (hh : HeadOk h) (rest : List (List UInt8)) (hs : List Hunk) : takeU (hunkL h ++ rest) hs 0 0 = takeU rest (hs ++ [h]) 0 0 := by
  obtain ⟨h1, h2, h3, h4, h5, h6, h7⟩ := hh
  unfold hunkL
  have e : readLine hs 0 0 (headL h.old (oldN h.marks) h.new (newN h.marks)) = some (hs ++ [⟨h.old, h.new, []⟩], oldN h.marks, newN h.marks) := by
    unfold readLine
    rw [if_neg (by omega), head_back h1 h2 h5 h3 h4 h6]
  rw [List.cons_append, take_cons (.inr rfl) e]
  have := take_marks rest hs h.old h.new h.marks [] 0 0 h7
  simp only [Nat.add_zero, List.nil_append] at this
  rw [this]
theorem take_hunks {rest : List (List UInt8)} (hr : ∀ s r, rest = s :: r → hunkHead s = false) : ∀ (l hs : List Hunk), (∀ h ∈ l, HeadOk h) → takeU (linesU l ++ rest) hs 0 0 = some (hs ++ l, rest)
  | [], hs, _ => by
    rw [List.append_nil]
    show takeU rest hs 0 0 = _
    cases rest with
    | nil => rw [takeU, if_neg (by omega)]
    | cons s r => rw [takeU, if_neg (by rw [hr s r rfl]; simp)]
  | h :: l, hs, hl => by
    have e : linesU (h :: l) = hunkL h ++ linesU l := rfl
    rw [e, List.append_assoc, take_hunk (hl h (List.mem_cons_self ..)), take_hunks hr l (hs ++ [h]) (fun k hk => hl k (List.mem_cons_of_mem _ hk)), List.append_assoc]
    rfl
/-- what is printed is read -/
theorem changes_back : ∀ (p : List Change) (k : Nat), (linesG p).length ≤ k → (∀ c ∈ p, (c.what = 1 ∨ c.what = 2 ∨ c.what = 3) ∧ ∀ h ∈ c.hunks, HeadOk h) → changesG k (linesG p) = some p
  | [], k, _, _ => by rw [show linesG [] = [] from rfl, changesG]
  | c :: p, k, hk, h => by
    have e : linesG (c :: p) = (mmL ++ fromL c.what c.path.data.toList) :: (ppL ++ toL c.what c.path.data.toList) :: (linesU c.hunks ++ linesG p) := rfl
    rw [e] at hk ⊢
    obtain ⟨k, rfl⟩ : ∃ j, k = j + 1 := ⟨k - 1, by simp at hk; omega⟩
    obtain ⟨hw, hh⟩ := h c (List.mem_cons_self ..)
    have hr : ∀ s r, linesG p = s :: r → hunkHead s = false := fun s r q => by
      cases p with
      | nil => cases q
      | cons d p =>
        have q' : (mmL ++ fromL d.what d.path.data.toList) :: _ = s :: r := q
        injection q' with q1 _
        rw [← q1]; rfl
    rw [changesG, headed_back _ hw]
    simp only
    rw [take_hunks hr c.hunks [] hh]
    simp only
    rw [changes_back p k (by simp at hk; omega) (fun d hd => h d (List.mem_cons_of_mem _ hd)), toB_of]
    rfl
theorem take_soff : ∀ (l : List (List UInt8)) {pre : List (List UInt8)} {hs hs' : List Hunk} {o n : Nat} {rest : List (List UInt8)}, Soff pre hs o n → takeU l hs o n = some (hs', rest) → ∃ used, l = used ++ rest ∧ Soff (pre ++ used) hs' 0 0
  | [], pre, hs, hs', o, n, rest, hp, h => by
    rw [takeU] at h
    by_cases q : 0 < o ∨ 0 < n
    · rw [if_pos q] at h; cases h
    · rw [if_neg q] at h
      injection h with h
      injection h with h1 h2
      subst h1; subst h2
      have ho : o = 0 := by omega
      have hn : n = 0 := by omega
      subst ho; subst hn
      exact ⟨[], rfl, by rw [List.append_nil]; exact hp⟩
  | s :: r, pre, hs, hs', o, n, rest, hp, h => by
    rw [takeU] at h
    by_cases q : (0 < o ∨ 0 < n) ∨ hunkHead s = true
    · rw [if_pos q] at h
      cases hr : readLine hs o n s with
      | none => rw [hr] at h; cases h
      | some x =>
        obtain ⟨h1, o1, n1⟩ := x
        rw [hr] at h
        obtain ⟨used, e, hu⟩ := take_soff r (line_soff hp hr) h
        exact ⟨s :: used, by rw [e]; rfl, by rw [List.append_assoc] at hu; exact hu⟩
    · rw [if_neg q] at h
      injection h with h
      injection h with h1 h2
      subst h1; subst h2
      have ho : o = 0 := by omega
      have hn : n = 0 := by omega
      subst ho; subst hn
      exact ⟨[], rfl, by rw [List.append_nil]; exact hp⟩
/-- what is read is printed so -/
theorem changes_some : ∀ (k : Nat) (l : List (List UInt8)) (p : List Change), changesG k l = some p → linesG p = l
  | k, [], p, h => by
    rw [changesG] at h
    injection h with h
    subst h; rfl
  | 0, _ :: _, _, h => by rw [changesG] at h; cases h
  | _ + 1, [_], _, h => by rw [changesG] at h; cases h
  | k + 1, a :: b :: r, p, h => by
    rw [changesG] at h
    cases hh : headedL a b with
    | none => rw [hh] at h; cases h
    | some x =>
      obtain ⟨w, t⟩ := x
      rw [hh] at h
      simp only at h
      cases ht : takeU r [] 0 0 with
      | none => rw [ht] at h; cases h
      | some x =>
        obtain ⟨hs, rest⟩ := x
        rw [ht] at h
        simp only at h
        cases hc : changesG k rest with
        | none => rw [hc] at h; cases h
        | some q =>
          rw [hc] at h
          injection h with h
          subst h
          obtain ⟨_, e1, e2⟩ := headed_some hh
          obtain ⟨used, e3, hu⟩ := take_soff r (pre := []) ⟨fun k hk => (by cases hk), .inl ⟨rfl, rfl, rfl⟩⟩ ht
          have e4 : linesU hs = used := by
            rw [List.nil_append] at hu
            rcases hu.2 with ⟨_, _, z⟩ | ⟨c, d, rfl, z⟩
            · exact z.symm
            · rw [z, linesP_full]
          show (mmL ++ fromL w (toB t).data.toList) :: (ppL ++ toL w (toB t).data.toList) :: (linesU hs ++ linesG q) = _
          rw [toB_data, ← e1, ← e2, e4, changes_some k rest q hc, e3]
end Go.Proofs.YtmojaahkcpgfkaaGreatDoor
namespace Go.Proofs.YtmojaahkcpgfkaaGreatDoor

/-- hunks are read from a number on as long as there are some: these, the number behind (or of the line that is wrong), whether all is well -/
def refTake : List (List UInt8) → Nat → List Hunk → Nat → Nat → List Hunk × Nat × Bool
  | [], i, hs, o, n => if 0 < o ∨ 0 < n then ([], i, false) else (hs, i, true)
  | s :: r, i, hs, o, n => if (0 < o ∨ 0 < n) ∨ hunkHead s = true then match readLine hs o n s with
      | none => ([], i, false)
      | some (hs', o', n') => refTake r (i + 1) hs' o' n'
    else (hs, i, true)
theorem refTake_take : ∀ (l : List (List UInt8)) (i : Nat) (hs : List Hunk) (o n : Nat), match takeU l hs o n with
    | none => ∃ j, refTake l i hs o n = ([], j, false)
    | some (hs', rest) => ∃ j, refTake l i hs o n = (hs', j, true) ∧ i ≤ j ∧ j ≤ i + l.length ∧ rest = l.drop (j - i)
  | [], i, hs, o, n => by
    rw [takeU, refTake]
    by_cases h : 0 < o ∨ 0 < n
    · rw [if_pos h, if_pos h]; exact ⟨i, rfl⟩
    · rw [if_neg h, if_neg h]; exact ⟨i, rfl, Nat.le_refl _, by simp, by simp⟩
  | s :: r, i, hs, o, n => by
    rw [takeU, refTake]
    by_cases h : (0 < o ∨ 0 < n) ∨ hunkHead s = true
    · rw [if_pos h, if_pos h]
      cases hr : readLine hs o n s with
      | none => exact ⟨i, rfl⟩
      | some p =>
        obtain ⟨hs', o', n'⟩ := p
        simp only
        have ih := refTake_take r (i + 1) hs' o' n'
        cases ht : takeU r hs' o' n' with
        | none => rw [ht] at ih; exact ih
        | some q =>
          obtain ⟨q1, q2⟩ := q
          rw [ht] at ih
          obtain ⟨j, h1, h2, h3, h4⟩ := ih
          refine ⟨j, h1, by omega, by rw [List.length_cons]; omega, ?_⟩
          rw [h4, show j - i = (j - (i + 1)) + 1 by omega, List.drop_succ_cons]
    · rw [if_neg h, if_neg h]
      exact ⟨i, rfl, Nat.le_refl _, by omega, by simp⟩
theorem head_head {s : List UInt8} {x : Int × Nat × Int × Nat} (h : headOf s = some x) : hunkHead s = true := by
  unfold headOf at h
  cases hp : dropPre atAt s with
  | none => rw [hp] at h; cases h
  | some r => rw [pre_some hp]; rfl
theorem go_refTake : ∀ (l : List (List UInt8)) (i : Nat) (hs : List Hunk) (o n : Nat), match goU l i hs o n with
    | (some j, _) => refTake l i hs o n = ([], j, false) ∨ ∃ hs', refTake l i hs o n = (hs', j, true) ∧ j < i + l.length
    | (none, hs', o', n') => if 0 < o' ∨ 0 < n' then refTake l i hs o n = ([], i + l.length, false) else refTake l i hs o n = (hs', i + l.length, true)
  | [], i, hs, o, n => by
    rw [goU, refTake]
    simp only
    by_cases h : 0 < o ∨ 0 < n
    · rw [if_pos h, if_pos h]; rfl
    · rw [if_neg h, if_neg h]; rfl
  | s :: r, i, hs, o, n => by
    rw [goU, refTake]
    cases hr : readLine hs o n s with
    | none =>
      simp only
      by_cases h : (0 < o ∨ 0 < n) ∨ hunkHead s = true
      · rw [if_pos h]; exact .inl rfl
      · rw [if_neg h]; exact .inr ⟨hs, rfl, by rw [List.length_cons]; omega⟩
    | some p =>
      obtain ⟨hs', o', n'⟩ := p
      have hh : (0 < o ∨ 0 < n) ∨ hunkHead s = true := by
        by_cases h : 0 < o ∨ 0 < n
        · exact .inl h
        · right
          unfold readLine at hr
          rw [if_neg h] at hr
          cases hd : headOf s with
          | none => rw [hd] at hr; cases hr
          | some x => exact head_head hd
      rw [if_pos hh]
      simp only
      have ih := go_refTake r (i + 1) hs' o' n'
      rw [show i + 1 + r.length = i + (s :: r).length by rw [List.length_cons]; omega] at ih
      exact ih
def refHunks (s : List UInt8) : List Hunk × Nat × Int :=
  if 400000 < s.length then ([], 0, 5) else match refTake (parts 10 s).dropLast 0 [] 0 0 with
  | (_, j, false) => ([], j, 5)
  | (hs, j, true) => if j < (parts 10 s).length - 1 then ([], j, 5) else if (parts 10 s).getLast? ≠ some [] then ([], (parts 10 s).length - 1, 5) else if (hunksFault hs).2 ≠ 0 then ([], 0, (hunksFault hs).2) else (hs, 0, 0)
theorem refHunks_eq (s : List UInt8) : refHunks s = parseU s := by
  unfold refHunks parseU
  by_cases hl : 400000 < s.length
  · rw [if_pos hl, if_pos hl]
  · rw [if_neg hl, if_neg hl]
    have h := go_refTake (parts 10 s).dropLast 0 [] 0 0
    have hlen : (parts 10 s).dropLast.length = (parts 10 s).length - 1 := List.length_dropLast
    cases hg : goU (parts 10 s).dropLast 0 [] 0 0 with
    | mk a b =>
      obtain ⟨hs', o', n'⟩ := b
      rw [hg] at h
      cases a with
      | some j =>
        simp only at h
        rcases h with h | ⟨hs2, h, hj⟩
        · rw [h]
        · rw [h]
          simp only
          rw [if_pos (by omega)]
      | none =>
        simp only at h ⊢
        by_cases ho : 0 < o' ∨ 0 < n'
        · rw [if_pos ho] at h
          rw [h, if_pos (by rcases ho with q | q; exact .inl q; exact .inr (.inl q))]
          simp only
          rw [Nat.zero_add, hlen]
        · rw [if_neg ho] at h
          rw [h]
          simp only
          rw [if_neg (by omega)]
          by_cases hx : (parts 10 s).getLast? ≠ some []
          · rw [if_pos hx, if_pos (.inr (.inr hx))]
          · rw [if_neg hx, if_neg (c := 0 < o' ∨ 0 < n' ∨ (parts 10 s).getLast? ≠ some []) (by rintro (q | q | q); exact ho (.inl q); exact ho (.inr q); exact hx q)]
/-- a head, as the document reads it -/
theorem head_ref (s : List UInt8) : headOf s = if atAt.isPrefixOf s = true ∧ endAt.isSuffixOf s = true ∧ 7 ≤ s.length then match cutSub [32, 43] ((s.drop 4).take (s.length - 7)) with
        | none => none
        | some (u, v) => match spanOf u with
          | none => none
          | some (a, x) => match spanOf v with
            | none => none
            | some (b, y) => some (a, x, b, y)
      else none := by
  unfold headOf
  by_cases hp : atAt.isPrefixOf s = true
  · have e1 : dropPre atAt s = some (s.drop 4) := if_pos hp
    rw [e1]
    simp only
    have hpl : 4 ≤ s.length := (List.isPrefixOf_iff_prefix.1 hp).length_le
    by_cases hc : endAt.isSuffixOf s = true ∧ 7 ≤ s.length
    · obtain ⟨h1, h2⟩ := hc
      have hs : endAt.isSuffixOf (s.drop 4) = true := by
        rw [List.isSuffixOf_iff_suffix] at h1 ⊢
        exact List.suffix_of_suffix_length_le h1 (List.drop_suffix 4 s) (by rw [List.length_drop]; show 3 ≤ _; omega)
      have e2 : dropSuf endAt (s.drop 4) = some ((s.drop 4).take (s.length - 7)) := by
        unfold dropSuf
        rw [if_pos hs, List.length_drop, show s.length - 4 - endAt.length = s.length - 7 by show s.length - 4 - 3 = _; omega]
      rw [e2, if_pos ⟨hp, h1, h2⟩]
      try rfl
    · rw [if_neg (fun q => hc q.2)]
      have hs : ¬ endAt.isSuffixOf (s.drop 4) = true := by
        intro q
        apply hc
        rw [List.isSuffixOf_iff_suffix] at q ⊢
        have hl := q.length_le
        rw [List.length_drop] at hl
        exact ⟨q.trans (List.drop_suffix 4 s), by have : endAt.length = 3 := rfl; omega⟩
      have e2 : dropSuf endAt (s.drop 4) = none := if_neg hs
      rw [e2]
  · have e1 : dropPre atAt s = none := if_neg hp
    rw [e1, if_neg (fun q => hp q.1)]
end Go.Proofs.YtmojaahkcpgfkaaGreatDoor
namespace Go.Proofs.YtmojaahkcpgfkaaGreatDoor

/-- a number of at most so many digits, written as it is -/
def numM (k : Nat) (s : List UInt8) : Option Nat := if s.length ≤ k then match Lib.decNat s with
  | some n => if Lib.decDigits n = s then some n else none
  | none => none
  else none
theorem numM_3 (s : List UInt8) : numM 3 s = numOf s := rfl
theorem dig_char {c : UInt8} {d : Nat} (h : Lib.digitVal c = some d) : d < 10 ∧ UInt8.ofNat (48 + d) = c ∧ c.toNat = 48 + d := by
  unfold Lib.digitVal at h
  by_cases hc : 48 ≤ c.toNat ∧ c.toNat ≤ 57
  · rw [if_pos hc] at h
    injection h with h
    subst h
    refine ⟨by omega, ?_, by omega⟩
    apply UInt8.toNat_inj.1
    rw [UInt8.toNat_ofNat']; omega
  · rw [if_neg hc] at h; cases h
theorem dec_from : ∀ (s : List UInt8) (acc n : Nat), 0 < acc → Lib.decFrom acc s = some n → Lib.decDigits n = Lib.decDigits acc ++ s ∧ 0 < n
  | [], acc, n, ha, h => by
    rw [Lib.decFrom] at h
    injection h with h
    subst h
    exact ⟨by simp, ha⟩
  | c :: r, acc, n, ha, h => by
    rw [Lib.decFrom] at h
    cases hd : Lib.digitVal c with
    | none => rw [hd] at h; cases h
    | some d =>
      rw [hd] at h
      obtain ⟨h1, h2, _⟩ := dig_char hd
      obtain ⟨h3, h4⟩ := dec_from r (acc * 10 + d) n (by omega) h
      refine ⟨?_, h4⟩
      rw [h3, Lib.decDigits, dif_neg (by omega : ¬ acc * 10 + d < 10), show (acc * 10 + d) / 10 = acc by omega, show (acc * 10 + d) % 10 = d by omega, h2]
      simp
theorem dec_head : ∀ (n : Nat), 0 < n → ∀ r, Lib.decDigits n ≠ 48 :: r := fun n => by
  induction n using Nat.strongRecOn with
  | _ n ih =>
    intro hn r h
    rw [Lib.decDigits] at h
    by_cases h10 : n < 10
    · rw [dif_pos h10] at h
      injection h with h _
      have := congrArg UInt8.toNat h
      rw [UInt8.toNat_ofNat'] at this
      have h48 : (48 : UInt8).toNat = 48 := rfl
      omega
    · rw [dif_neg h10] at h
      cases hq : Lib.decDigits (n / 10) with
      | nil =>
        have := Lib.decDigits_length (n / 10)
        rw [hq] at this
        have := Lib.nDigits_pos (n / 10)
        simp at *
        omega
      | cons a b =>
        rw [hq] at h
        injection h with h _
        exact ih (n / 10) (by omega) (by omega) b (by rw [hq, h])
/-- a text of digits is its number's numeral where it has no 0 ahead -/
theorem dec_canon {s : List UInt8} {n : Nat} (h : Lib.decNat s = some n) : Lib.decDigits n = s ↔ ¬ (1 < s.length ∧ s.head? = some 48) := by
  unfold Lib.decNat at h
  cases s with
  | nil => cases h
  | cons c r =>
    rw [if_neg (by simp), Lib.decFrom] at h
    cases hd : Lib.digitVal c with
    | none => rw [hd] at h; cases h
    | some d =>
      rw [hd] at h
      simp only [Nat.zero_mul, Nat.zero_add] at h
      obtain ⟨h1, h2, h3⟩ := dig_char hd
      by_cases h0 : d = 0
      · subst h0
        have hc : c = 48 := h2.symm
        subst hc
        constructor
        · rintro e ⟨hl, _⟩
          by_cases hn : 0 < n
          · exact dec_head n hn r e
          · have : n = 0 := by omega
            subst this
            rw [Lib.decDigits_one (by omega)] at e
            have := congrArg List.length e
            simp only [List.length_cons, List.length_nil] at this hl
            omega
        · intro e
          cases r with
          | nil =>
            rw [Lib.decFrom] at h
            injection h with h
            subst h
            rw [Lib.decDigits_one (by omega)]; rfl
          | cons a b => exact absurd ⟨by simp, rfl⟩ e
      · obtain ⟨h4, h5⟩ := dec_from r d n (by omega) h
        have e : Lib.decDigits n = c :: r := by rw [h4, Lib.decDigits_one h1, h2]; rfl
        refine ⟨fun _ ⟨_, q⟩ => ?_, fun _ => e⟩
        injection q with q
        subst q
        have h48 : (48 : UInt8).toNat = 48 := rfl
        omega
/-- the document's reading of a number -/
theorem num_ref (k : Nat) (s : List UInt8) : numM k s = if s.length < 1 ∨ k < s.length ∨ (1 < s.length ∧ s.head? = some 48) then none else Lib.decFrom 0 s := by
  unfold numM
  by_cases hk : k < s.length
  · rw [if_neg (by omega), if_pos (.inr (.inl hk))]
  · rw [if_pos (by omega)]
    cases s with
    | nil => rw [if_pos (.inl (by simp))]; rfl
    | cons c r =>
      have e : Lib.decNat (c :: r) = Lib.decFrom 0 (c :: r) := rfl
      rw [← e]
      cases hd : Lib.decNat (c :: r) with
      | none =>
        show none = _
        rw [ite_self]
      | some n =>
        have hcan := dec_canon hd
        simp only
        by_cases hc : 1 < (c :: r).length ∧ (c :: r).head? = some 48
        · rw [if_neg (fun q => hcan.1 q hc), if_pos (.inr (.inr hc))]
        · rw [if_pos (hcan.2 hc), if_neg]
          rintro (q | q | q)
          · simp at q
          · exact hk q
          · exact hc q
theorem numM_lt {k n : Nat} {s : List UInt8} (h : numM k s = some n) : n < 10 ^ k ∧ Lib.decDigits n = s := by
  unfold numM at h
  by_cases hl : s.length ≤ k
  · rw [if_pos hl] at h
    cases hd : Lib.decNat s with
    | none => rw [hd] at h; cases h
    | some q =>
      rw [hd] at h
      simp only at h
      by_cases he : Lib.decDigits q = s
      · rw [if_pos he] at h
        injection h with h
        subst h
        refine ⟨?_, he⟩
        have h1 := Lib.decFrom_lt _ _ _ (Lib.decNat_some hd).2
        have : (10 : Nat) ^ s.length ≤ 10 ^ k := Nat.pow_le_pow_right (by decide) hl
        omega
      · rw [if_neg he] at h; cases h
  · rw [if_neg hl] at h; cases h
end Go.Proofs.YtmojaahkcpgfkaaGreatDoor
namespace Go.Proofs.YtmojaahkcpgfkaaGreatDoor

/-- the reader's hunks, with marks wanted only behind one -/
def RdOk (hs : List Hunk) (o n : Nat) : Prop := 0 < o ∨ 0 < n → hs ≠ []
theorem rdOk_start : RdOk [] 0 0 := fun h => by omega
theorem addMark_ne {hs : List Hunk} (m : Mark) (h : hs ≠ []) : addMark hs m ≠ [] := by
  cases hs with
  | nil => exact absurd rfl h
  | cons a l => cases l <;> simp [addMark]
theorem readLine_ok {hs hs' : List Hunk} {o n o' n' : Nat} {s : List UInt8} (hk : RdOk hs o n) (h : readLine hs o n s = some (hs', o', n')) : hs' ≠ [] := by
  unfold readLine at h
  by_cases hon : 0 < o ∨ 0 < n
  · have hne := hk hon
    rw [if_pos hon] at h
    cases s with
    | nil => cases h
    | cons c r =>
      simp only at h
      split at h
      · injection h with h; injection h with h1 _; rw [← h1]; exact addMark_ne _ hne
      · split at h
        · injection h with h; injection h with h1 _; rw [← h1]; exact addMark_ne _ hne
        · split at h
          · injection h with h; injection h with h1 _; rw [← h1]; exact addMark_ne _ hne
          · cases h
  · rw [if_neg hon] at h
    cases hd : headOf s with
    | none => rw [hd] at h; cases h
    | some x =>
      obtain ⟨a, x, b, y⟩ := x
      rw [hd] at h
      injection h with h; injection h with h1 _; rw [← h1]; simp
theorem numOf_lt {s : List UInt8} {n : Nat} (h : numOf s = some n) : n < 1000 := (num_some h).1
end Go.Proofs.YtmojaahkcpgfkaaGreatDoor
namespace Go.Proofs.YtmojaahkcpgfkaaGreatDoor
open Go.RowKit

theorem toB_size' (X : List UInt8) : (toB X).size = X.length := by rw [Lib.size_eq, toB_data]
theorem toB_three (a b c : List UInt8) : toB a ++ toB b ++ toB c = toB (a ++ b ++ c) := by
  apply ByteArray.ext
  apply Array.toList_inj.1
  rw [bytes_append, bytes_append, toB_data, toB_data, toB_data, toB_data]
theorem itoa_any (x : Int) (n : Nat) (hx : x = n) (h : n < 100) (w : World) :
    Calls Tryz.prog 62 #[.int .i64 x] w fun e w' => e = .returned (.string (toB (Lib.itoa x))) ∧ w' = w := by
  subst hx
  rw [itoa_nat]
  exact Tryz.strconv_Itoa_small n h w
set_option maxHeartbeats 1000000 in
set_option maxRecDepth 100000 in
theorem span_any (a : Int) (n : Nat) (h0 : 0 ≤ a) (h1 : a < 99) (hn : n < 100) (w : World) :
    Calls Tryz.prog 44 #[.int .i64 a, .int .i64 n] w fun e w' => e = .returned (.string (toB (spanL a n))) ∧ w' = w := by
  have hs2 : (toB (Lib.itoa (n : Int))).size ≤ 20 := by
    rw [toB_size', itoa_nat]
    have := dec_len (n := n) (by omega)
    omega
  by_cases hp : 0 < n
  · have HE : Hid (spanL a n = Lib.itoa (a + 1) ++ [44] ++ Lib.itoa n) := by unfold Hid spanL; rw [if_pos hp]
    have t1 : decide ((0 : Int) < (n : Int)) = true := decide_eq_true (by omega)
    have t1n : decide (0 < n) = true := decide_eq_true hp
    have F1 : ∀ wx, Calls Tryz.prog 62 #[.int .i64 (a + 1)] wx fun e w' => e = .returned (.string (toB (Lib.itoa (a + 1)))) ∧ w' = wx := fun wx => itoa_any (a + 1) (a + 1).toNat (by omega) (by omega) wx
    have hs1 : (toB (Lib.itoa (a + 1))).size ≤ 20 := by
      obtain ⟨k, hk⟩ : ∃ k : Nat, a + 1 = k := ⟨(a + 1).toNat, by omega⟩
      rw [toB_size', hk, itoa_nat]
      have := dec_len (n := k) (by omega)
      omega
    clear hp
    go_enter Tryz.func44, Tryz.ntmps44
    go_wp2_with fail
    refine (F1 _).mono ?_
    rintro e w1 ⟨rfl, rfl⟩
    go_wp2_with fail
    refine (itoa_any n n rfl hn _).mono ?_
    rintro e w1 ⟨rfl, rfl⟩
    go_wp2_with fail
    go_ret
    exact ⟨by rw [HE.out]; exact congrArg (fun x => Ending.returned (Value.string x)) (toB_three _ _ _), rfl⟩
  · obtain rfl : n = 0 := by omega
    have HE : Hid (spanL a 0 = Lib.itoa a ++ [44] ++ Lib.itoa 0) := by unfold Hid spanL; rw [if_neg hp]; rfl
    have F1 : ∀ wx, Calls Tryz.prog 62 #[.int .i64 a] wx fun e w' => e = .returned (.string (toB (Lib.itoa a))) ∧ w' = wx := fun wx => itoa_any a a.toNat (by omega) (by omega) wx
    have F2 : ∀ wx, Calls Tryz.prog 62 #[.int .i64 0] wx fun e w' => e = .returned (.string (toB (Lib.itoa 0))) ∧ w' = wx := fun wx => itoa_any 0 0 rfl (by omega) wx
    have hs1 : (toB (Lib.itoa a)).size ≤ 20 := by
      obtain ⟨k, hk⟩ : ∃ k : Nat, a = k := ⟨a.toNat, by omega⟩
      rw [toB_size', hk, itoa_nat]
      have := dec_len (n := k) (by omega)
      omega
    have hs2 : (toB (Lib.itoa 0)).size ≤ 20 := hs2
    clear hp
    go_enter Tryz.func44, Tryz.ntmps44
    go_wp2_with fail
    refine (F1 _).mono ?_
    rintro e w1 ⟨rfl, rfl⟩
    go_wp2_with fail
    refine (F2 _).mono ?_
    rintro e w1 ⟨rfl, rfl⟩
    go_wp2_with fail
    go_ret
    exact ⟨by rw [HE.out]; exact congrArg (fun x => Ending.returned (Value.string x)) (toB_three _ _ _), rfl⟩

theorem chg_below {B : Nat} {w w' : World} (h : Below B w w') : Chg (From B) w w' :=
  ⟨h.os, h.tape, h.output, h.size, fun k hk hn => h.block k (by unfold From at hn; omega)⟩
theorem hunkR_head (h : Hunk) : textL (hunkL h) = headL h.old (oldN h.marks) h.new (newN h.marks) ++ [10] ++ textL (h.marks.map markL) := rfl
theorem textU_take {l : List Hunk} {k : Nat} {x : Hunk} (hx : l[k]? = some x) : textU (l.take (k + 1)) = textU (l.take k) ++ textL (hunkL x) := by
  unfold textU linesU
  rw [List.take_add_one, hx, Option.toList_some, List.flatMap_append, textL_app]
  simp
theorem textM_take {l : List Mark} {k : Nat} {x : Mark} (hx : l[k]? = some x) : textL ((l.take (k + 1)).map markL) = textL ((l.take k).map markL) ++ (signOf x :: (x.text.data.toList ++ [10])) := by
  rw [List.take_add_one, hx, Option.toList_some, List.map_append, textL_app]
  simp [textL, markL]
/-- what each of the hunks that may be is -/
def EachH (x : Hunk) : Prop := scriptFault x.marks = 0 ∧ 0 ≤ x.old ∧ x.old ≤ 60 ∧ 0 ≤ x.new ∧ x.new ≤ 60 ∧ oldN x.marks ≤ 60 ∧ newN x.marks ≤ 60
theorem one_scr {h : Hunk} {fin more : Int} (e : oneFault h fin more = 0) : scriptFault h.marks = 0 := by
  unfold oneFault at e
  by_cases h1 : scriptFault h.marks ≠ 0
  · rw [if_pos h1] at e; exact absurd e h1
  · simpa using h1
theorem go_each : ∀ (l : List Hunk) (i : Nat) (fin more : Int), (hunksGo i fin more l).2 = 0 → ∀ x ∈ l, EachH x
  | [], _, _, _, _ => fun _ h => by cases h
  | h :: l, i, fin, more, e => by
    rw [hunksGo] at e
    by_cases h0 : oneFault h fin more = 0
    · rw [if_pos h0] at e
      obtain ⟨q1, q2, q3, q4, q5, q6, q7⟩ := one_ok h0
      intro x hx
      rcases List.mem_cons.1 hx with rfl | hx
      · exact ⟨one_scr h0, q2, by omega, q3, by omega, by omega, by omega⟩
      · exact go_each l _ _ _ e x hx
    · rw [if_neg h0] at e
      exact absurd e h0
theorem hunks_each {l : List Hunk} (h : (hunksFault l).2 = 0) : ∀ x ∈ l, EachH x := by
  unfold hunksFault at h
  by_cases hl : 60 < l.length
  · rw [if_pos hl] at h; cases h
  · rw [if_neg hl] at h
    exact go_each l _ _ _ h
theorem textU_mono {l : List Hunk} {k : Nat} : (textU (l.take k)).length ≤ (textU l).length := by
  conv => rhs; rw [← List.take_append_drop k l]
  unfold textU linesU
  rw [List.flatMap_append, textL_app, List.length_append]
  omega
theorem cells_toB (x : List UInt8) : Lib.strCells (toB x) = Lib.byteCells x := by rw [Lib.strCells_eq, toB_data]
/-- a head, as the walk writes it -/
theorem head_row (a b : Int) (x y : Nat) : toB [64, 64, 32, 45] ++ toB (spanL a x) ++ toB [32, 43] ++ toB (spanL b y) ++ toB [32, 64, 64, 10] = toB (headL a x b y ++ [10]) := by
  apply ByteArray.ext
  apply Array.toList_inj.1
  simp only [bytes_append, toB_data]
  unfold headL atAt endAt
  simp
theorem mark_cells {m : Mark} (h : SignOk m) : [.int .u8 m.sign] ++ Lib.strCells (m.text ++ toB [10]) = Lib.byteCells (signOf m :: (m.text.data.toList ++ [10])) := by
  rw [Lib.strCells_eq, bytes_append, toB_data]
  unfold signOf
  rcases h with e | e | e <;> rw [e] <;> rfl
theorem marks_take_len {ms : List Mark} {q : Nat} (h : ∀ m ∈ ms, markFault m = 0) (hl : ms.length ≤ 120) : (textL ((ms.take q).map markL)).length ≤ 82 * 120 := by
  have : ∀ (k : List Mark), (∀ m ∈ k, markFault m = 0) → (textL (k.map markL)).length ≤ 82 * k.length := fun k hk => by
    induction k with
    | nil => simp [textL]
    | cons m k ih =>
      obtain ⟨-, -, q3⟩ := mark_ok (hk m (List.mem_cons_self ..))
      have := ih fun x hx => hk x (List.mem_cons_of_mem _ hx)
      have e : (textL ((m :: k).map markL)).length = m.text.size + 2 + (textL (k.map markL)).length := by
        show (markL m ++ [10] ++ textL (k.map markL)).length = _
        unfold markL
        simp only [List.length_append, List.length_cons, List.length_nil, Array.length_toList, ByteArray.size_data]
      rw [e, List.length_cons]; omega
  have h1 := this (ms.take q) (fun m hm => h m (List.mem_of_mem_take hm))
  rw [List.length_take] at h1
  omega
set_option maxHeartbeats 1000000 in
set_option maxRecDepth 100000 in
theorem write_any (B b : Nat) (bs : List Value) (l : List Hunk) (v : Value) (w : World) (h : Rdv w (From B) v l) (hI : IsB B b bs w) (hz : (hunksFault l).2 = 0) (hlen : bs.length ≤ 1000000000) (hBw : B ≤ w.heap.size) :
    Calls Tryz.prog 26 #[.pointer (some ⟨b, 0, none⟩), v] w fun e w' => e = .returned (.tuple #[]) ∧ IsB B b (bs ++ Lib.byteCells (textU l)) w' ∧ Below B w w' := by
  obtain ⟨a, cap, rfl, h1, h2, h3⟩ := rdv_slice h
  unfold maxLen at h2
  have hTL := Lib.hid (hunks_ok hz).2.2
  have hH := Lib.hid (hunks_each hz)
  clear hz
  go_enter Tryz.func26, Tryz.ntmps26
  go_wp2_with fail
  go_loopw [12] (fun i wr => ∃ k : Nat, k ≤ l.length ∧ i = .int .i64 k ∧ IsB B b (bs ++ Lib.byteCells (textU (l.take k))) wr ∧ Below B w wr) (fun i _ => l.length - (intOf i).toNat)
  case atStart => exact ⟨0, Nat.zero_le _, rfl, by simpa [textU, textL, linesU, Lib.byteCells] using hI, Below.refl _ _⟩
  case round =>
    clear hI
    obtain ⟨k, hk, rfl, hI, hb⟩ := hrel
    rename World => wr
    have hbs := hb.size
    by_cases hlt : k < l.length
    · obtain ⟨x, hx⟩ : ∃ x, l[k]? = some x := ⟨l[k], by simp [hlt]⟩
      obtain ⟨b', off, mv, rfl, hnb, -, c0, c1, c2, hmv⟩ := elems_hunk h3 hx
      have hcb := chg_below hb
      have hbne : wr.heap.size ≠ b := by
        have : b < wr.heap.size := hI.elim (fun q => q.lt) (fun q => q.lt)
        omega
      obtain ⟨e1, e2, e3, e4, e5, e6, e7⟩ := hH.out x (List.mem_of_getElem? hx)
      have E1 := Lib.hid e1
      have hml := scriptFault_len e1
      have HT := Lib.hid (textU_take hx)
      have hTk := @textU_mono l k
      have hTk1 := @textU_mono l (k + 1)
      have hTLo := hTL.out
      obtain ⟨ma, mc, rfl, -, -, hme⟩ := rdv_slice hmv
      have c0 := hcb.cell c0 hnb
      have c1 := hcb.cell c1 hnb
      have c2 := hcb.cell c2 hnb
      have hmr : Rdv wr (From B) (.slice ma x.marks.length mc) x.marks := hmv.keep hcb (fun _ _ h => h) (fun _ _ h => h)
      have hA : Chg Never wr (wr.alloc (.cells #[.int .i64 x.old, .int .i64 x.new, .slice ma x.marks.length mc] 42)) := (Chg.refl Never wr).alloc _
      have hbox := Blk3.new wr 42 (.int .i64 x.old) (.int .i64 x.new) (.slice ma x.marks.length mc)
      obtain ⟨g0, g1, g2⟩ := hbox.cell
      have hIA := bld_keep hI hA
      have hmA := hmr.never hA
      have hbA : Below B w (wr.alloc (.cells #[.int .i64 x.old, .int .i64 x.new, .slice ma x.marks.length mc] 42)) := hb.alloc (by omega) _
      clear hx h3 h hI hmr hmv e1
      go_wp2_with fail
      clear c0 c1 c2
      generalize wr.alloc (.cells #[.int .i64 x.old, .int .i64 x.new, .slice ma x.marks.length mc] 42) = wA at hA hbox g0 g1 g2 hIA hmA hbA ⊢
      refine (size_any x _ _ (hmA.sub (fun _ _ h => h.elim))).mono ?_
      rintro e w2 ⟨rfl, hc2⟩
      have g0 := hc2.cellNever g0
      have g1 := hc2.cellNever g1
      have g2 := hc2.cellNever g2
      have hI2 := bld_keep hIA hc2
      have hm2 := hmA.never hc2
      have hb2 := hbA.trans (hc2.never.mono (Nat.le_trans hBw hbA.size))
      have hwsz := hb2.size
      have hl1 : (spanL x.old (oldN x.marks)).length ≤ 7 := span_len e2 (by omega) (by omega)
      have hl2 : (spanL x.new (newN x.marks)).length ≤ 7 := span_len e4 (by omega) (by omega)
      have FS1 : ∀ wx, Calls Tryz.prog 44 #[.int .i64 x.old, .int .i64 (oldN x.marks : Nat)] wx fun e w' => e = .returned (.string (toB (spanL x.old (oldN x.marks)))) ∧ w' = wx := fun wx => span_any _ _ e2 (by omega) (by omega) wx
      have FS2 : ∀ wx, Calls Tryz.prog 44 #[.int .i64 x.new, .int .i64 (newN x.marks : Nat)] wx fun e w' => e = .returned (.string (toB (spanL x.new (newN x.marks)))) ∧ w' = wx := fun wx => span_any _ _ e4 (by omega) (by omega) wx
      have HR := Lib.hid (head_row x.old x.new (oldN x.marks) (newN x.marks))
      have HUL := Lib.hid (hunkR_head x)
      obtain ⟨S1, hS1⟩ : ∃ S1, toB (spanL x.old (oldN x.marks)) = S1 := ⟨_, rfl⟩
      obtain ⟨S2, hS2⟩ : ∃ S2, toB (spanL x.new (newN x.marks)) = S2 := ⟨_, rfl⟩
      obtain ⟨HD, hHD⟩ : ∃ HD, headL x.old (oldN x.marks) x.new (newN x.marks) ++ [10] = HD := ⟨_, rfl⟩
      have hz1 : S1.size ≤ 7 := by rw [← hS1, toB_size']; exact hl1
      have hz2 : S2.size ≤ 7 := by rw [← hS2, toB_size']; exact hl2
      have hbl : (bs ++ Lib.byteCells (textU (l.take k))).length ≤ 1000400000 := by rw [List.length_append, Lib.byteCells_length]; omega
      rw [hS1, hS2, hHD] at HR
      rw [hHD] at HUL
      rw [hS1] at FS1
      rw [hS2] at FS2
      obtain ⟨bs1, hbs1⟩ : ∃ bs1, bs ++ Lib.byteCells (textU (l.take k)) = bs1 := ⟨_, rfl⟩
      rw [hbs1] at hI2 hbl
      have HB1 := Lib.hid hbs1
      clear hbs1
      clear hS1 hS2 hl1 hl2 hIA hmA hbA hA hb hH hTL hTk hTk1
      go_wp2_with fail
      have n1 : ¬ (9223372036854775807 < 4 + S1.size) := by omega
      have n2 : ¬ (9223372036854775807 < 4 + S1.size + 2) := by omega
      have n3 : ¬ (9223372036854775807 < 4 + S1.size + 2 + S2.size) := by omega
      have n4 : ¬ (9223372036854775807 < 4 + S1.size + 2 + S2.size + 4) := by omega
      refine wp_region_still_tail 13 (by kernel_rfl) (by kernel_rfl) ?_
      simp only [List.take_succ_cons, List.take_zero, List.drop_succ_cons, List.drop_zero]
      change wpStill _ _ w2.drew _ _ _
      still_step
      still_step
      still_step
      still_step
      refine wpStill_step (fun K hK => ?_)
      go_simp
      refine ⟨.string S1, FS1 _, ?_⟩
      refine hK _ ?_
      clear hK K
      still_step
      still_step
      still_step
      still_step
      still_step
      refine wpStill_step (fun K hK => ?_)
      go_simp
      refine ⟨.string S2, FS2 _, ?_⟩
      refine hK _ ?_
      clear hK K
      still_step
      still_step
      refine wpStill_nil ?_
      change wpList _ _ _ _ _ w2.drew
      have hbox2 := hbox.keep hc2 (fun h => h)
      have hcd : Chg Never w2 w2.drew := (Chg.refl Never w2).drew
      have hbox3 := hbox2.keep hcd (fun h => h)
      have hI3 := bld_keep hI2 hcd
      have hm3 := hm2.never hcd
      have hb3 := hb2.trans (hcd.never.mono (Nat.le_trans hBw hb2.size))
      have hw3s : B ≤ w2.drew.heap.size := Nat.le_trans hBw hb3.size
      have hHl : HD.length ≤ 24 := by
        have := head_len ⟨e2, by omega, e4, by omega, by omega, by omega, fun m hm => (mark_ok (marks_ok E1.out m hm)).1⟩
        rw [← hHD, List.length_append]; simp; omega
      generalize w2.drew = w3 at hI3 hm3 hb3 hw3s hbox3
      clear hcd hI2 hm2 hb2 g0 g1 g2 hHD n1 n2 n3 n4 FS1 FS2 hbox hbox2 hc2 hwsz
      go_wp2_with fail
      refine (bldk_string B b bs1 _ _ hI3 (by rw [ByteArray.size_append, ByteArray.size_append, ByteArray.size_append, ByteArray.size_append]; show _ + (4 + S1.size + 2 + S2.size + 4) ≤ _; omega) hw3s).mono ?_
      rintro e w4 ⟨rfl, hI4, b4, k4⟩
      have hI4 : BAt B b (bs1 ++ Lib.byteCells HD) w4 := by rw [← cells_toB, ← HR.out]; exact hI4
      have hb4 := hb3.trans b4
      have hc4 := chg_below b4
      have hm4 : Rdv w4 (From B) (.slice ma x.marks.length mc) x.marks := hm3.keep hc4 (fun _ _ h => h) (fun _ _ h => h)
      obtain ⟨-, -, g2⟩ := (k4.blk3 hbox3 hbne (by decide)).cell
      have hbl2 : (bs1 ++ Lib.byteCells HD).length ≤ 1000500000 := by rw [List.length_append, Lib.byteCells_length]; omega
      obtain ⟨bs2, hbs2⟩ : ∃ bs2, bs1 ++ Lib.byteCells HD = bs2 := ⟨_, rfl⟩
      rw [hbs2] at hI4 hbl2
      have HB2 := Lib.hid hbs2
      clear hI3 hm3 hb3 b4 hc4 HR hbs2 hz1 hz2 k4 hbox3
      have hme4 := (rdv_slice hm4)
      obtain ⟨ma', mc', hq, -, -, hme⟩ := hme4
      injection hq with hq1 _ hq2
      subst hq1 hq2
      have hMK := Lib.hid (marks_ok E1.out)
      have hw4s := Nat.le_trans hBw hb4.size
      have hst0 : bs2 ++ Lib.byteCells (textL ((x.marks.take 0).map markL)) = bs2 := by simp [textL, Lib.byteCells]
      unfold maxLen at *
      go_wp2_with fail
      clear g2
      go_loopw [38] (fun i wi => ∃ q : Nat, q ≤ x.marks.length ∧ i = .int .i64 q ∧ IsB B b (bs2 ++ Lib.byteCells (textL ((x.marks.take q).map markL))) wi ∧ Below B w4 wi) (fun i _ => x.marks.length - (intOf i).toNat)
      case atStart => exact ⟨0, Nat.zero_le _, rfl, by rw [hst0]; exact .inr hI4, Below.refl _ _⟩
      case round =>
        clear hI4
        obtain ⟨q, hq, rfl, hJ, hbi⟩ := hrel
        rename World => wi
        by_cases hql : q < x.marks.length
        · obtain ⟨y, hy⟩ : ∃ y, x.marks[q]? = some y := ⟨x.marks[q], by simp [hql]⟩
          obtain ⟨yb, yoff, rfl, hynb, -, d0, d1, s0, s1, hys⟩ := elems_mark hme hy
          have hci := chg_below hbi
          have d0 := hci.cell d0 hynb
          have d1 := hci.cell d1 hynb
          obtain ⟨m1, m2, m3⟩ := mark_ok (hMK.out y (List.mem_of_getElem? hy))
          have HMT := Lib.hid (textM_take hy)
          have hA : Chg Never wi (wi.alloc (.cells #[.int .u8 y.sign, .string y.text] 39)) := (Chg.refl Never wi).alloc _
          have hbx := Blk2.new wi 39 (.int .u8 y.sign) (.string y.text)
          have hbn : wi.heap.size ≠ b := by
            have : b < wi.heap.size := hJ.elim (fun q => q.lt) (fun q => q.lt)
            omega
          obtain ⟨f0, f1⟩ := hbx.cell
          have hJA := bld_keep hJ hA
          have hbA := hbi.trans (hA.never.mono (Nat.le_trans hw4s hbi.size))
          have hsA := Nat.le_trans hw4s hbA.size
          have hmt : (textL ((x.marks.take q).map markL)).length ≤ 82 * 120 := marks_take_len hMK.out hml
          have hbl3 : (bs2 ++ Lib.byteCells (textL ((x.marks.take q).map markL))).length ≤ 1000600000 := by rw [List.length_append, Lib.byteCells_length]; omega
          have HJ2 : Hid (bs2 ++ Lib.byteCells (textL ((x.marks.take q).map markL)) ++ [.int .u8 y.sign] ++ Lib.strCells (y.text ++ toB [10]) = bs2 ++ Lib.byteCells (textL ((x.marks.take (q + 1)).map markL))) := by
            rw [Hid, HMT.out, Lib.byteCells_append, List.append_assoc, List.append_assoc, mark_cells m1]
          generalize bs2 ++ Lib.byteCells (textL ((x.marks.take q).map markL)) = bs3 at hJA hbl3 HJ2
          clear hy hJ hmt
          go_wp2_with fail
          clear d0 d1
          refine (bldk_byte1 B b bs3 y.sign _ hJA (by omega) hsA).mono ?_
          rintro e w5 ⟨rfl, hJ5, b5, k5⟩
          obtain ⟨f0, f1⟩ := (k5.blk2 hbx hbn (by decide)).cell
          have hb5 := hbA.trans b5
          clear hJA hbx b5 k5 hA
          go_wp2_with fail
          refine (bldk_string B b _ _ _ (.inr hJ5) (by rw [List.length_append, ByteArray.size_append]; show bs3.length + 1 + (y.text.size + 1) ≤ _; omega) (Nat.le_trans hw4s hb5.size)).mono ?_
          rintro e w6 ⟨rfl, hJ6, b6, -⟩
          go_wp2_with fail
          go_roundw
          case rel => exact ⟨q + 1, by omega, by go_num, .inr (by rw [← HJ2.out]; exact hJ6), hb5.trans b6⟩
          case measure => simp [intOf]; omega
        · rw [List.take_of_length_le (by omega)] at hJ
          have hfin : IsB B b (bs ++ Lib.byteCells (textU (l.take (k + 1)))) wi := by
            rw [HT.out, Lib.byteCells_append, ← List.append_assoc, HB1.out, HUL.out, Lib.byteCells_append, ← List.append_assoc, HB2.out]
            exact hJ
          have hbf := hb4.trans hbi
          clear hJ hbi hme hMK
          go_wp2_with fail
          go_roundw
          case rel => exact ⟨k + 1, by omega, by go_num, hfin, hbf⟩
          case measure => simp [intOf]; omega
    · rw [List.take_of_length_le (by omega)] at hI
      go_wp2_with fail
      go_end0
      exact ⟨rfl, hI, hb⟩
end Go.Proofs.YtmojaahkcpgfkaaGreatDoor
namespace Go.Proofs.YtmojaahkcpgfkaaGreatDoor
open Go.RowKit

def digitsB : ByteArray := ⟨#[48, 49, 50, 51, 52, 53, 54, 55, 56, 57]⟩
theorem digits_size : digitsB.size = 10 := rfl
theorem digit_fin : ∀ k : Fin 10, digitsB.extract k.1 (k.1 + 1) = toB [UInt8.ofNat (48 + k.1)] := by decide +kernel
theorem digit_slice {N : Nat} (hN : N < 10) (w : World) : (Instr.slice 9 (.string digitsB) (some (.int .i64 (N : Int))) (some (.int .i64 ((N : Int) + 1))) none).run Tryz.prog w = .ok (.string (toB [UInt8.ofNat (48 + N)])) w := by
  rw [run_slice_string_if (h := Tryz.underlying9), if_pos ⟨by omega, by rw [digits_size]; omega⟩, if_pos ⟨by omega, by omega⟩, ← digit_fin ⟨N, hN⟩]
  rfl
theorem dec_small {k : Nat} (h : k < 10) : Lib.decDigits k = [UInt8.ofNat (48 + k)] := by rw [Lib.decDigits, dif_pos h]
theorem dec_big {k : Nat} (h : ¬ k < 10) : Lib.decDigits k = Lib.decDigits (k / 10) ++ [UInt8.ofNat (48 + k % 10)] := by conv => lhs; rw [Lib.decDigits, dif_neg h]
theorem toB_cat (a b : List UInt8) : toB a ++ toB b = toB (a ++ b) := by
  apply ByteArray.ext
  apply Array.toList_inj.1
  rw [bytes_append, toB_data, toB_data, toB_data]

set_option maxHeartbeats 1000000 in
set_option maxRecDepth 100000 in
theorem dec_any (n : Nat) (hn : n < 1000000) (w : World) :
    Calls Tryz.prog 41 #[.int .i64 n] w fun e w' => e = .returned (.string (toB (Lib.decDigits n))) ∧ w = w' := by
  go_enter Tryz.func41, Tryz.ntmps41
  go_wp2_with fail
  go_loop [0, 3] (fun nv sv => ∃ (k : Nat) (acc : List UInt8), nv = .int .i64 k ∧ sv = .string (toB acc) ∧ acc.length + k ≤ n ∧ Hid (Lib.decDigits k ++ acc = Lib.decDigits n)) (fun nv _ => (intOf nv).toNat)
  case atStart => exact ⟨n, [], rfl, rfl, by simp, by rw [Hid, List.append_nil]⟩
  case round =>
    obtain ⟨k, acc, rfl, rfl, hk, hI⟩ := hrel
    by_cases hb : k < 10
    · have hrun := digit_slice (N := k) hb
      have HR : Hid (toB [UInt8.ofNat (48 + k)] ++ toB acc = toB (Lib.decDigits n)) := by rw [Hid, toB_cat, ← dec_small hb, hI.out]
      have s1 : IntKind.i64.wrap ((k : Int) + 1) = (k : Int) + 1 := IntWalk.i64_in _ (by omega)
      have z1 : ¬ (9223372036854775807 < (toB [UInt8.ofNat (48 + k)]).size + (toB acc).size) := by rw [toB_size', toB_size']; simp; omega
      unfold digitsB at hrun
      generalize toB [UInt8.ofNat (48 + k)] = D at hrun HR z1
      clear hI
      go_wp2_with fail
      go_ret
      exact ⟨by rw [← HR.out]; rfl, rfl⟩
    · have hrun := digit_slice (N := k % 10) (by omega)
      have HR : Hid (toB [UInt8.ofNat (48 + k % 10)] ++ toB acc = toB (UInt8.ofNat (48 + k % 10) :: acc)) := by rw [Hid, toB_cat]; rfl
      have hI2 : Hid (Lib.decDigits (k / 10) ++ (UInt8.ofNat (48 + k % 10) :: acc) = Lib.decDigits n) := by
        have := hI.out
        rw [dec_big hb, List.append_assoc] at this
        exact this
      have z1 : ¬ (9223372036854775807 < (toB [UInt8.ofNat (48 + k % 10)]).size + (toB acc).size) := by rw [toB_size', toB_size']; simp; omega
      have hlen : (UInt8.ofNat (48 + k % 10) :: acc).length + k / 10 ≤ n := by rw [List.length_cons]; omega
      unfold digitsB at hrun
      rw [show (((k % 10 : Nat)) : Int) = (k : Int) % 10 by omega] at hrun
      generalize toB [UInt8.ofNat (48 + k % 10)] = D at hrun HR z1
      have s1 : IntKind.i64.wrap ((k : Int) % 10 + 1) = (k : Int) % 10 + 1 := IntWalk.i64_in _ (by omega)
      clear hI
      go_wp2_with fail
      go_round
      case rel => exact ⟨k / 10, _, by go_num, by rw [HR.out], hlen, hI2⟩
      case measure => simp [intOf]; omega
set_option maxHeartbeats 1000000 in
set_option maxRecDepth 100000 in
theorem refSpan_any (a : Int) (m : Nat) (h0 : 0 ≤ a) (h1 : a < 999) (hm : m < 1000) (w : World) :
    Calls Tryz.prog 24 #[.int .i64 a, .int .i64 m] w fun e w' => e = .returned (.string (toB (spanL a m))) ∧ w = w' := by
  obtain ⟨x, rfl⟩ : ∃ x : Nat, a = x := ⟨a.toNat, by omega⟩
  have hD2 := Lib.hid (dec_any m (by omega) w)
  have hz : ∀ n, n < 1001 → (toB (Lib.decDigits n)).size ≤ 1000 := fun n hn => by
    rw [toB_size', Lib.decDigits_length]
    have : ∀ k, k < 1001 → Lib.nDigits k ≤ 1000 := by
      intro k hk
      rw [Lib.nDigits]
      split
      · omega
      · rw [Lib.nDigits]
        split
        · omega
        · rw [Lib.nDigits]
          split
          · omega
          · rw [Lib.nDigits]
            split
            · omega
            · omega
    exact this n hn
  have z2 := hz m (by omega)
  have q1 : (⟨#[44]⟩ : ByteArray).size = 1 := rfl
  by_cases hp : 0 < m
  · have hD : Calls Tryz.prog 41 #[.int .i64 ((x : Int) + 1)] w fun e w' => e = .returned (.string (toB (Lib.decDigits (x + 1)))) ∧ w = w' := by
      have := dec_any (x + 1) (by omega) w
      rw [show ((x + 1 : Nat) : Int) = (x : Int) + 1 by omega] at this
      exact this
    have hD := Lib.hid hD
    have z1 := hz (x + 1) (by omega)
    have HS : Hid (toB (Lib.decDigits (x + 1)) ++ (⟨#[44]⟩ : ByteArray) ++ toB (Lib.decDigits m) = toB (spanL (x : Int) m)) := by
      rw [Hid, show (⟨#[44]⟩ : ByteArray) = toB [44] from rfl, toB_cat, toB_cat]
      unfold spanL
      rw [if_pos hp, show (x : Int) + 1 = ((x + 1 : Nat) : Int) by omega, itoa_nat, itoa_nat]
    have s1 : IntKind.i64.wrap ((x : Int) + 1) = (x : Int) + 1 := IntWalk.i64_in _ (by omega)
    have tp : decide ((0 : Int) < (m : Int)) = true := decide_eq_true (by omega)
    generalize toB (Lib.decDigits (x + 1)) = X at hD z1 HS
    generalize toB (Lib.decDigits m) = Y at hD2 z2 HS
    have n1 : ¬ (9223372036854775807 < X.size + (⟨#[44]⟩ : ByteArray).size) := by rw [q1]; omega
    have n2 : ¬ (9223372036854775807 < (X ++ (⟨#[44]⟩ : ByteArray)).size + Y.size) := by rw [ByteArray.size_append, q1]; omega
    clear hz
    go_enter Tryz.func24, Tryz.ntmps24
    go_wp2_with fail
    refine hD.out.mono ?_
    rintro e w1 ⟨rfl, rfl⟩
    go_wp2_with fail
    refine hD2.out.mono ?_
    rintro e w1 ⟨rfl, rfl⟩
    go_wp2_with fail
    go_ret
    exact ⟨by rw [← HS.out]; rfl, rfl⟩
  · have hD := Lib.hid (dec_any x (by omega) w)
    have z1 := hz x (by omega)
    have HS : Hid (toB (Lib.decDigits x) ++ (⟨#[44]⟩ : ByteArray) ++ toB (Lib.decDigits m) = toB (spanL (x : Int) m)) := by
      rw [Hid, show (⟨#[44]⟩ : ByteArray) = toB [44] from rfl, toB_cat, toB_cat]
      unfold spanL
      rw [if_neg hp, itoa_nat, itoa_nat]
    have tp : decide ((0 : Int) < (m : Int)) = false := decide_eq_false (by omega)
    generalize toB (Lib.decDigits x) = X at hD z1 HS
    generalize toB (Lib.decDigits m) = Y at hD2 z2 HS
    have n1 : ¬ (9223372036854775807 < X.size + (⟨#[44]⟩ : ByteArray).size) := by rw [q1]; omega
    have n2 : ¬ (9223372036854775807 < (X ++ (⟨#[44]⟩ : ByteArray)).size + Y.size) := by rw [ByteArray.size_append, q1]; omega
    clear hz
    go_enter Tryz.func24, Tryz.ntmps24
    go_wp2_with fail
    refine hD.out.mono ?_
    rintro e w1 ⟨rfl, rfl⟩
    go_wp2_with fail
    refine hD2.out.mono ?_
    rintro e w1 ⟨rfl, rfl⟩
    go_wp2_with fail
    go_ret
    exact ⟨by rw [← HS.out]; rfl, rfl⟩
end Go.Proofs.YtmojaahkcpgfkaaGreatDoor
