/-
  PARTS: HUNKS AS TEXTS, in plain Lean (chapter 5): numbers, spans, heads; lines written and read.; HUNKS AS TEXTS, in plain Lean (chapter 5): the reader, line by line; what is printed is read, what is read is printed so.; HUNKS AS TEXTS, in plain Lean (chapter 5): whole texts. What is printed is read; what is read is printed so; cut off within the last line it is none.; PATCHES AS TEXTS, in plain Lean (chapter 8): lines written and read.; TREES, in plain Lean (chapter 2): files by path, in order.; TREES BY WHAT IS LOOKED UP IN THEM, in plain Lean: what put and drop do to each path; two trees in which each path reads the same are the same.; PIECES OF A SCRIPT, in plain Lean (chapter 3, H2): what Cut answers.; WHAT LIES BETWEEN TWO TREES, in plain Lean: file by file of two sorted lists; the document's way by all paths of both is the same.
-/
import Derived.Test.YtgabchhplmncnaaDoorPackRs1
import Derived.Lib.ItoaNum
import Derived.Lib.AtoiTie
import Derived.Lib.Bytealg
import GoSem.Op.String
namespace Go.Proofs.YtgabchhplmncnaaDoor

/-! ### numbers -/
def dec3 (n : Nat) : List UInt8 :=
  if n < 10 then [UInt8.ofNat (48 + n)] else if n < 100 then [UInt8.ofNat (48 + n / 10), UInt8.ofNat (48 + n % 10)] else [UInt8.ofNat (48 + n / 10 / 10), UInt8.ofNat (48 + n / 10 % 10), UInt8.ofNat (48 + n % 10)]
theorem digits_three {n : Nat} (h : n < 1000) : Lib.decDigits n = dec3 n := by
  unfold dec3
  by_cases h1 : n < 10
  · rw [if_pos h1, Lib.decDigits_one h1]
  · rw [if_neg h1]
    by_cases h2 : n < 100
    · rw [if_pos h2, Lib.decDigits_two h1 h2]
    · rw [if_neg h2, Lib.decDigits, dif_neg h1, Lib.decDigits_two (by omega) (by omega)]
      rfl
theorem dec3_nat : ∀ n, n < 1000 → Lib.decNat (dec3 n) = some n := by decide +kernel
theorem dec3_chars : ∀ n, n < 1000 → (dec3 n).all (fun c => decide (48 ≤ c.toNat) && decide (c.toNat ≤ 57)) = true := by decide +kernel
theorem dec3_len : ∀ n, n < 1000 → (dec3 n).length ≤ 3 := by decide +kernel
/-- a number of at most three digits, written as it is -/
def numOf (s : List UInt8) : Option Nat := if s.length ≤ 3 then match Lib.decNat s with
  | some n => if Lib.decDigits n = s then some n else none
  | none => none
  else none
theorem num_dec {n : Nat} (h : n < 1000) : numOf (Lib.decDigits n) = some n := by
  unfold numOf
  rw [digits_three h, if_pos (dec3_len n h), dec3_nat n h]
  show (if Lib.decDigits n = dec3 n then some n else none) = _
  rw [if_pos (digits_three h)]
theorem num_some {s : List UInt8} {n : Nat} (h : numOf s = some n) : n < 1000 ∧ Lib.decDigits n = s := by
  unfold numOf at h
  by_cases hl : s.length ≤ 3
  · rw [if_pos hl] at h
    cases hd : Lib.decNat s with
    | none => rw [hd] at h; cases h
    | some k =>
      rw [hd] at h
      simp only at h
      by_cases he : Lib.decDigits k = s
      · rw [if_pos he] at h
        injection h with h
        subst h
        refine ⟨?_, he⟩
        have h1 := Lib.decFrom_lt _ _ _ (Lib.decNat_some hd).2
        have : (10 : Nat) ^ s.length ≤ 10 ^ 3 := Nat.pow_le_pow_right (by decide) hl
        omega
      · rw [if_neg he] at h; cases h
  · rw [if_neg hl] at h; cases h
theorem dec_digit {n : Nat} (h : n < 1000) {c : UInt8} (hc : c ∈ Lib.decDigits n) : 48 ≤ c.toNat ∧ c.toNat ≤ 57 := by
  rw [digits_three h] at hc
  have := List.all_eq_true.1 (dec3_chars n h) c hc
  simpa using this

/-! ### cuts -/
def cutSub (t : List UInt8) : List UInt8 → Option (List UInt8 × List UInt8)
  | [] => if t = [] then some ([], []) else none
  | c :: r => if t.isPrefixOf (c :: r) then some ([], (c :: r).drop t.length) else (cutSub t r).map fun p => (c :: p.1, p.2)
theorem cut_some {t : List UInt8} : ∀ {s a b : List UInt8}, cutSub t s = some (a, b) → s = a ++ t ++ b
  | [], a, b, h => by
    rw [cutSub] at h
    by_cases e : t = []
    · rw [if_pos e] at h
      injection h with h
      injection h with h1 h2
      rw [← h1, ← h2, e]; rfl
    · rw [if_neg e] at h; cases h
  | c :: r, a, b, h => by
    rw [cutSub] at h
    by_cases e : t.isPrefixOf (c :: r) = true
    · rw [if_pos e] at h
      injection h with h
      injection h with h1 h2
      rw [← h1, ← h2, List.nil_append]
      obtain ⟨q, hq⟩ := List.isPrefixOf_iff_prefix.1 e
      rw [← hq, List.drop_left]
    · rw [if_neg e] at h
      cases hr : cutSub t r with
      | none => rw [hr] at h; cases h
      | some p =>
        rw [hr] at h
        injection h with h
        injection h with h1 h2
        rw [← h1, ← h2, List.cons_append, List.cons_append, ← cut_some (a := p.1) (b := p.2) hr]
theorem cut_at {x : UInt8} {t : List UInt8} (b : List UInt8) : ∀ {a : List UInt8}, (∀ c ∈ a, c ≠ x) → cutSub (x :: t) (a ++ (x :: t) ++ b) = some (a, b)
  | [], _ => by
    rw [List.nil_append, List.cons_append, cutSub, if_pos (by rw [List.isPrefixOf_iff_prefix]; exact ⟨b, rfl⟩)]
    show some ([], (x :: t ++ b).drop (x :: t).length) = _
    rw [List.drop_left]
  | c :: a, h => by
    rw [List.cons_append, List.cons_append, cutSub, if_neg, cut_at b fun d hd => h d (List.mem_cons_of_mem _ hd)]
    · rfl
    · rw [List.isPrefixOf_iff_prefix]
      rintro ⟨q, hq⟩
      injection hq with h1 _
      exact h c (List.mem_cons_self ..) h1.symm
def dropPre (p s : List UInt8) : Option (List UInt8) := if p.isPrefixOf s then some (s.drop p.length) else none
def dropSuf (q s : List UInt8) : Option (List UInt8) := if q.isSuffixOf s then some (s.take (s.length - q.length)) else none
theorem pre_app (p r : List UInt8) : dropPre p (p ++ r) = some r := by
  unfold dropPre
  rw [if_pos (List.isPrefixOf_iff_prefix.2 ⟨r, rfl⟩), List.drop_left]
theorem pre_some {p s r : List UInt8} (h : dropPre p s = some r) : s = p ++ r := by
  unfold dropPre at h
  by_cases e : p.isPrefixOf s = true
  · rw [if_pos e] at h
    injection h with h
    obtain ⟨q, hq⟩ := List.isPrefixOf_iff_prefix.1 e
    rw [← h, ← hq, List.drop_left]
  · rw [if_neg e] at h; cases h
theorem suf_app (q r : List UInt8) : dropSuf q (r ++ q) = some r := by
  unfold dropSuf
  rw [if_pos (List.isSuffixOf_iff_suffix.2 ⟨r, rfl⟩), List.length_append, Nat.add_sub_cancel, List.take_left]
theorem suf_some {q s r : List UInt8} (h : dropSuf q s = some r) : s = r ++ q := by
  unfold dropSuf at h
  by_cases e : q.isSuffixOf s = true
  · rw [if_pos e] at h
    injection h with h
    obtain ⟨p, hp⟩ := List.isSuffixOf_iff_suffix.1 e
    rw [← h, ← hp, List.length_append, Nat.add_sub_cancel, List.take_left]
  · rw [if_neg e] at h; cases h

/-! ### spans, heads -/
def spanL (ahead : Int) (many : Nat) : List UInt8 := Lib.itoa (if 0 < many then ahead + 1 else ahead) ++ [44] ++ Lib.itoa many
def spanOf (s : List UInt8) : Option (Int × Nat) := match cutSub [44] s with
  | none => none
  | some (a, b) => match numOf a with
    | none => none
    | some x => match numOf b with
      | none => none
      | some y => if 0 < y then (if x = 0 then none else some ((x : Int) - 1, y)) else some ((x : Int), y)
theorem itoa_nat (n : Nat) : Lib.itoa n = Lib.decDigits n := by
  unfold Lib.itoa
  rw [if_neg (by omega)]; rfl
theorem span_back {a : Int} {m : Nat} (h0 : 0 ≤ a) (h1 : a < 999) (hm : m < 1000) : spanOf (spanL a m) = some (a, m) := by
  obtain ⟨x, hx, hx3⟩ : ∃ x : Nat, (if 0 < m then a + 1 else a) = (x : Int) ∧ x < 1000 := ⟨(if 0 < m then a + 1 else a).toNat, by split <;> omega, by split <;> omega⟩
  unfold spanOf spanL
  rw [hx, itoa_nat, itoa_nat, cut_at (x := 44) (t := []) _ (fun c hc e => by have := (dec_digit hx3 hc).2; have := (dec_digit hx3 hc).1; rw [e] at this; exact absurd this (by decide))]
  simp only
  rw [num_dec hx3, num_dec hm]
  simp only
  by_cases h : 0 < m
  · rw [if_pos h] at hx ⊢
    rw [if_neg (by omega)]
    congr 2; omega
  · rw [if_neg h] at hx ⊢
    rw [hx]
theorem span_some {s : List UInt8} {a : Int} {m : Nat} (h : spanOf s = some (a, m)) : 0 ≤ a ∧ spanL a m = s := by
  unfold spanOf at h
  cases hc : cutSub [44] s with
  | none => rw [hc] at h; cases h
  | some p =>
    obtain ⟨u, v⟩ := p
    rw [hc] at h
    simp only at h
    cases hu : numOf u with
    | none => rw [hu] at h; cases h
    | some x =>
      rw [hu] at h
      simp only at h
      cases hv : numOf v with
      | none => rw [hv] at h; cases h
      | some y =>
        rw [hv] at h
        simp only at h
        have e := cut_some hc
        obtain ⟨_, e1⟩ := num_some hu
        obtain ⟨_, e2⟩ := num_some hv
        unfold spanL
        by_cases hy : 0 < y
        · rw [if_pos hy] at h
          by_cases hx : x = 0
          · rw [if_pos hx] at h; cases h
          · rw [if_neg hx] at h
            injection h with h
            injection h with h1 h2
            subst h1; subst h2
            refine ⟨by omega, ?_⟩
            rw [if_pos hy, show ((x : Int) - 1 + 1) = (x : Int) by omega, itoa_nat, itoa_nat, e1, e2, e]
        · rw [if_neg hy] at h
          injection h with h
          injection h with h1 h2
          subst h1; subst h2
          refine ⟨by omega, ?_⟩
          rw [if_neg hy, itoa_nat, itoa_nat, e1, e2, e]
def atAt : List UInt8 := [64, 64, 32, 45]
def endAt : List UInt8 := [32, 64, 64]
def headL (a : Int) (x : Nat) (b : Int) (y : Nat) : List UInt8 := atAt ++ (spanL a x ++ [32, 43] ++ spanL b y ++ endAt)
def headOf (s : List UInt8) : Option (Int × Nat × Int × Nat) := match dropPre atAt s with
  | none => none
  | some r => match dropSuf endAt r with
    | none => none
    | some m => match cutSub [32, 43] m with
      | none => none
      | some (u, v) => match spanOf u with
        | none => none
        | some (a, x) => match spanOf v with
          | none => none
          | some (b, y) => some (a, x, b, y)
theorem span_chars {a : Int} {m : Nat} (h0 : 0 ≤ a) (h1 : a < 999) (hm : m < 1000) {c : UInt8} (hc : c ∈ spanL a m) : c.toNat = 44 ∨ (48 ≤ c.toNat ∧ c.toNat ≤ 57) := by
  obtain ⟨x, hx, hx3⟩ : ∃ x : Nat, (if 0 < m then a + 1 else a) = (x : Int) ∧ x < 1000 := ⟨(if 0 < m then a + 1 else a).toNat, by split <;> omega, by split <;> omega⟩
  unfold spanL at hc
  rw [hx, itoa_nat, itoa_nat] at hc
  rcases List.mem_append.1 hc with hc | hc
  · rcases List.mem_append.1 hc with hc | hc
    · exact .inr (dec_digit hx3 hc)
    · rw [List.mem_singleton.1 hc]; exact .inl rfl
  · exact .inr (dec_digit hm hc)
theorem head_back {a b : Int} {x y : Nat} (a0 : 0 ≤ a) (a1 : a < 999) (hx : x < 1000) (b0 : 0 ≤ b) (b1 : b < 999) (hy : y < 1000) : headOf (headL a x b y) = some (a, x, b, y) := by
  unfold headOf headL
  rw [pre_app]
  simp only
  rw [suf_app]
  simp only
  rw [cut_at (x := 32) (t := [43]) _ (fun c hc e => by have := span_chars a0 a1 hx hc; rw [e] at this; exact absurd this (by decide))]
  simp only
  rw [span_back a0 a1 hx, span_back b0 b1 hy]
theorem head_some {s : List UInt8} {a b : Int} {x y : Nat} (h : headOf s = some (a, x, b, y)) : 0 ≤ a ∧ 0 ≤ b ∧ headL a x b y = s := by
  unfold headOf at h
  cases h1 : dropPre atAt s with
  | none => rw [h1] at h; cases h
  | some r =>
    rw [h1] at h
    simp only at h
    cases h2 : dropSuf endAt r with
    | none => rw [h2] at h; cases h
    | some m =>
      rw [h2] at h
      simp only at h
      cases h3 : cutSub [32, 43] m with
      | none => rw [h3] at h; cases h
      | some p =>
        obtain ⟨u, v⟩ := p
        rw [h3] at h
        simp only at h
        cases h4 : spanOf u with
        | none => rw [h4] at h; cases h
        | some p =>
          obtain ⟨a', x'⟩ := p
          rw [h4] at h
          simp only at h
          cases h5 : spanOf v with
          | none => rw [h5] at h; cases h
          | some p =>
            obtain ⟨b', y'⟩ := p
            rw [h5] at h
            injection h with h
            injection h with ea h
            injection h with ex h
            injection h with eb ey
            subst ea; subst ex; subst eb; subst ey
            obtain ⟨q1, q2⟩ := span_some h4
            obtain ⟨q3, q4⟩ := span_some h5
            refine ⟨q1, q3, ?_⟩
            unfold headL
            rw [q2, q4, pre_some h1, suf_some h2, cut_some h3]
end Go.Proofs.YtgabchhplmncnaaDoor
namespace Go.Proofs.YtgabchhplmncnaaDoor

def signOf (m : Mark) : UInt8 := UInt8.ofNat m.sign.toNat
def markL (m : Mark) : List UInt8 := signOf m :: m.text.data.toList
def hunkL (h : Hunk) : List (List UInt8) := headL h.old (oldN h.marks) h.new (newN h.marks) :: h.marks.map markL
def linesU (l : List Hunk) : List (List UInt8) := l.flatMap hunkL
def textL (l : List (List UInt8)) : List UInt8 := (l.map fun x => x ++ [10]).flatten
def textU (l : List Hunk) : List UInt8 := textL (linesU l)
def addMark : List Hunk → Mark → List Hunk
  | [], _ => []
  | [h], m => [⟨h.old, h.new, h.marks ++ [m]⟩]
  | h :: k :: r, m => h :: addMark (k :: r) m
/-- a line is read: what is there then, how many marks are needed still -/
def readLine (hs : List Hunk) (o n : Nat) (s : List UInt8) : Option (List Hunk × Nat × Nat) :=
  if 0 < o ∨ 0 < n then match s with
    | [] => none
    | c :: r => if c = 32 ∧ 0 < o ∧ 0 < n then some (addMark hs ⟨32, toB r⟩, o - 1, n - 1)
      else if c = 45 ∧ 0 < o then some (addMark hs ⟨45, toB r⟩, o - 1, n)
      else if c = 43 ∧ 0 < n then some (addMark hs ⟨43, toB r⟩, o, n - 1) else none
  else match headOf s with
    | none => none
    | some (a, x, b, y) => some (hs ++ [⟨a, b, []⟩], x, y)
/-- lines are read from a number on: the number of the one that is not, or none -/
def goU : List (List UInt8) → Nat → List Hunk → Nat → Nat → Option Nat × List Hunk × Nat × Nat
  | [], _, hs, o, n => (none, hs, o, n)
  | s :: r, i, hs, o, n => match readLine hs o n s with
    | none => (some i, hs, o, n)
    | some (hs', o', n') => goU r (i + 1) hs' o' n'
theorem go_cons {s : List UInt8} {hs hs' : List Hunk} {o n o' n' : Nat} (h : readLine hs o n s = some (hs', o', n')) (r : List (List UInt8)) (i : Nat) : goU (s :: r) i hs o n = goU r (i + 1) hs' o' n' := by rw [goU, h]
theorem add_mark : ∀ (hs : List Hunk) (h : Hunk) (m : Mark), addMark (hs ++ [h]) m = hs ++ [⟨h.old, h.new, h.marks ++ [m]⟩]
  | [], _, _ => rfl
  | [k], h, m => rfl
  | k :: j :: r, h, m => by
    have := add_mark (j :: r) h m
    rw [List.cons_append, List.cons_append] at *
    rw [addMark, this]; rfl
def SignOk (m : Mark) : Prop := m.sign = 32 ∨ m.sign = 45 ∨ m.sign = 43
theorem oldN_cons (m : Mark) (ms : List Mark) : oldN (m :: ms) = (if m.sign ≠ 43 then 1 else 0) + oldN ms := by
  unfold oldN those
  rw [List.filter_cons]
  by_cases h : m.sign = 43
  · rw [if_neg (by simp [h]), if_neg (by simp [h]), Nat.zero_add]
  · rw [if_pos (by simp [h]), if_pos h, List.map_cons, List.length_cons, Nat.add_comm]
theorem newN_cons (m : Mark) (ms : List Mark) : newN (m :: ms) = (if m.sign ≠ 45 then 1 else 0) + newN ms := by
  unfold newN those
  rw [List.filter_cons]
  by_cases h : m.sign = 45
  · rw [if_neg (by simp [h]), if_neg (by simp [h]), Nat.zero_add]
  · rw [if_pos (by simp [h]), if_pos h, List.map_cons, List.length_cons, Nat.add_comm]
theorem oldN_app : ∀ (a b : List Mark), oldN (a ++ b) = oldN a + oldN b
  | [], b => by rw [List.nil_append]; show _ = 0 + _; rw [Nat.zero_add]
  | m :: a, b => by rw [List.cons_append, oldN_cons, oldN_cons, oldN_app a b, Nat.add_assoc]
theorem newN_app : ∀ (a b : List Mark), newN (a ++ b) = newN a + newN b
  | [], b => by rw [List.nil_append]; show _ = 0 + _; rw [Nat.zero_add]
  | m :: a, b => by rw [List.cons_append, newN_cons, newN_cons, newN_app a b, Nat.add_assoc]
/-- a mark is read -/
theorem read_mark {m : Mark} (hm : SignOk m) {o n : Nat} (hs : List Hunk) (h : Hunk) :
    readLine (hs ++ [h]) ((if m.sign ≠ 43 then 1 else 0) + o) ((if m.sign ≠ 45 then 1 else 0) + n) (markL m) = some (hs ++ [⟨h.old, h.new, h.marks ++ [m]⟩], o, n) := by
  obtain ⟨sg, tx⟩ := m
  unfold readLine markL signOf
  rcases hm with e | e | e <;> simp only at e <;> subst e
  · rw [if_pos (by simp; omega)]
    simp only
    rw [if_pos ⟨rfl, by simp; omega, by simp; omega⟩, add_mark, toB_of]
    simp
  · rw [if_pos (by simp; omega)]
    simp only
    rw [if_neg (by rintro ⟨q, _⟩; exact absurd q (by decide)), if_pos ⟨rfl, by simp; omega⟩, add_mark, toB_of]
    simp
  · rw [if_pos (by simp; omega)]
    simp only
    rw [if_neg (by rintro ⟨q, _⟩; exact absurd q (by decide)), if_neg (by rintro ⟨q, _⟩; exact absurd q (by decide)), if_pos ⟨rfl, by simp; omega⟩, add_mark, toB_of]
    simp
theorem go_marks (rest : List (List UInt8)) (hs : List Hunk) (a b : Int) : ∀ (ms done : List Mark) (i o n : Nat), (∀ m ∈ ms, SignOk m) →
    goU (ms.map markL ++ rest) i (hs ++ [⟨a, b, done⟩]) (oldN ms + o) (newN ms + n) = goU rest (i + ms.length) (hs ++ [⟨a, b, done ++ ms⟩]) o n
  | [], done, i, o, n, _ => by
    show goU rest i _ (0 + o) (0 + n) = _
    rw [Nat.zero_add, Nat.zero_add, List.append_nil]; rfl
  | m :: ms, done, i, o, n, h => by
    rw [oldN_cons, newN_cons, Nat.add_assoc, Nat.add_assoc, List.map_cons, List.cons_append, go_cons (read_mark (h m (List.mem_cons_self ..)) hs _), go_marks rest hs a b ms (done ++ [m]) (i + 1) o n (fun k hk => h k (List.mem_cons_of_mem _ hk))]
    rw [List.append_assoc, List.length_cons, show i + 1 + ms.length = i + (ms.length + 1) by omega]; rfl
/-- a hunk that may be written -/
def HeadOk (h : Hunk) : Prop := 0 ≤ h.old ∧ h.old < 999 ∧ 0 ≤ h.new ∧ h.new < 999 ∧ oldN h.marks < 1000 ∧ newN h.marks < 1000 ∧ ∀ m ∈ h.marks, SignOk m
theorem go_hunk {h : Hunk} (hh : HeadOk h) (rest : List (List UInt8)) (hs : List Hunk) (i : Nat) : goU (hunkL h ++ rest) i hs 0 0 = goU rest (i + (hunkL h).length) (hs ++ [h]) 0 0 := by
  obtain ⟨h1, h2, h3, h4, h5, h6, h7⟩ := hh
  unfold hunkL
  have e : readLine hs 0 0 (headL h.old (oldN h.marks) h.new (newN h.marks)) = some (hs ++ [⟨h.old, h.new, []⟩], oldN h.marks, newN h.marks) := by
    unfold readLine
    rw [if_neg (by omega), head_back h1 h2 h5 h3 h4 h6]
  rw [List.cons_append, go_cons e]
  have := go_marks rest hs h.old h.new h.marks [] (i + 1) 0 0 h7
  simp only [Nat.add_zero, List.nil_append] at this
  rw [this, List.length_cons, List.length_map, show i + 1 + h.marks.length = i + (h.marks.length + 1) by omega]
theorem go_hunks (rest : List (List UInt8)) : ∀ (l hs : List Hunk) (i : Nat), (∀ h ∈ l, HeadOk h) → goU (linesU l ++ rest) i hs 0 0 = goU rest (i + (linesU l).length) (hs ++ l) 0 0
  | [], hs, i, _ => by rw [List.append_nil]; rfl
  | h :: l, hs, i, hl => by
    have e : linesU (h :: l) = hunkL h ++ linesU l := rfl
    rw [e, List.append_assoc, go_hunk (hl h (List.mem_cons_self ..)), go_hunks rest l (hs ++ [h]) _ (fun k hk => hl k (List.mem_cons_of_mem _ hk)), List.append_assoc, List.length_append, Nat.add_assoc]
    rfl

/-! ### what is read was written so -/
/-- the lines so far: the last hunk's head says how many lines it will have -/
def linesP (hs : List Hunk) (h : Hunk) (o n : Nat) : List (List UInt8) := linesU hs ++ headL h.old (oldN h.marks + o) h.new (newN h.marks + n) :: h.marks.map markL
theorem linesP_full (hs : List Hunk) (h : Hunk) : linesP hs h 0 0 = linesU (hs ++ [h]) := by
  unfold linesP linesU
  rw [List.flatMap_append, List.flatMap_singleton]; rfl
theorem linesP_mark {hs : List Hunk} {h : Hunk} {m : Mark} {o n : Nat} :
    linesP hs ⟨h.old, h.new, h.marks ++ [m]⟩ o n = linesP hs h ((if m.sign ≠ 43 then 1 else 0) + o) ((if m.sign ≠ 45 then 1 else 0) + n) ++ [markL m] := by
  unfold linesP
  simp only
  rw [oldN_app, newN_app, oldN_cons, newN_cons, show oldN [] = 0 from rfl, show newN [] = 0 from rfl, Nat.add_zero, Nat.add_zero, List.map_append, Nat.add_assoc, Nat.add_assoc, List.append_assoc, List.cons_append]
  rfl
/-- what stands so far, and the marks that are there have signs -/
def Soff (pre : List (List UInt8)) (hs : List Hunk) (o n : Nat) : Prop :=
  (∀ h ∈ hs, ∀ m ∈ h.marks, SignOk m) ∧ ((o = 0 ∧ n = 0 ∧ pre = linesU hs) ∨ (∃ hs' h, hs = hs' ++ [h] ∧ pre = linesP hs' h o n))
theorem mark_soff {hs : List Hunk} {h : Hunk} {m : Mark} (hm : SignOk m) {o n o' n' : Nat} (ho : o = (if m.sign ≠ 43 then 1 else 0) + o') (hn : n = (if m.sign ≠ 45 then 1 else 0) + n') (hg : ∀ k ∈ hs ++ [h], ∀ m ∈ k.marks, SignOk m) :
    Soff (linesP hs h o n ++ [markL m]) (addMark (hs ++ [h]) m) o' n' := by
  rw [add_mark]
  refine ⟨fun k hk x hx => ?_, .inr ⟨hs, _, rfl, by rw [linesP_mark, ho, hn]⟩⟩
  rcases List.mem_append.1 hk with hk | hk
  · exact hg k (List.mem_append_left _ hk) x hx
  · rw [List.mem_singleton.1 hk] at hx
    rcases List.mem_append.1 hx with hx | hx
    · exact hg h (List.mem_append_right _ (List.mem_singleton.2 rfl)) x hx
    · rw [List.mem_singleton.1 hx]; exact hm
theorem line_soff {pre : List (List UInt8)} {hs hs' : List Hunk} {o n o' n' : Nat} {s : List UInt8} (hp : Soff pre hs o n) (h : readLine hs o n s = some (hs', o', n')) : Soff (pre ++ [s]) hs' o' n' := by
  obtain ⟨hg, hp⟩ := hp
  unfold readLine at h
  by_cases hon : 0 < o ∨ 0 < n
  · rw [if_pos hon] at h
    obtain ⟨hs0, hk, rfl, rfl⟩ : ∃ hs0 hk, hs = hs0 ++ [hk] ∧ pre = linesP hs0 hk o n := by
      rcases hp with ⟨a, b, _⟩ | q
      · omega
      · exact q
    cases s with
    | nil => cases h
    | cons c r =>
      simp only at h
      have hmk : ∀ (sg : Int) (u : UInt8), UInt8.ofNat sg.toNat = u → u :: r = markL ⟨sg, toB r⟩ := fun sg u e => by unfold markL signOf; rw [toB_data]; simp only; rw [e]
      by_cases h1 : c = 32 ∧ 0 < o ∧ 0 < n
      · rw [if_pos h1] at h
        injection h with h
        injection h with e1 h
        injection h with e2 e3
        subst e1; subst e2; subst e3
        rw [h1.1, hmk 32 32 rfl]
        exact mark_soff (.inl rfl) (by simp; omega) (by simp; omega) hg
      · rw [if_neg h1] at h
        by_cases h2 : c = 45 ∧ 0 < o
        · rw [if_pos h2] at h
          injection h with h
          injection h with e1 h
          injection h with e2 e3
          subst e1; subst e2; subst e3
          rw [h2.1, hmk 45 45 rfl]
          exact mark_soff (.inr (.inl rfl)) (by simp; omega) (by simp) hg
        · rw [if_neg h2] at h
          by_cases h3 : c = 43 ∧ 0 < n
          · rw [if_pos h3] at h
            injection h with h
            injection h with e1 h
            injection h with e2 e3
            subst e1; subst e2; subst e3
            rw [h3.1, hmk 43 43 rfl]
            exact mark_soff (.inr (.inr rfl)) (by simp) (by simp; omega) hg
          · rw [if_neg h3] at h; cases h
  · rw [if_neg hon] at h
    have ho : o = 0 := by omega
    have hn : n = 0 := by omega
    subst ho; subst hn
    have epre : pre = linesU hs := by
      rcases hp with ⟨_, _, q⟩ | ⟨a, b, rfl, q⟩
      · exact q
      · rw [q, linesP_full]
    cases hd : headOf s with
    | none => rw [hd] at h; cases h
    | some p =>
      obtain ⟨a, x, b, y⟩ := p
      rw [hd] at h
      injection h with h
      injection h with e1 h
      injection h with e2 e3
      subst e1; subst e2; subst e3
      obtain ⟨_, _, q⟩ := head_some hd
      refine ⟨fun k hk m hm => ?_, .inr ⟨hs, ⟨a, b, []⟩, rfl, ?_⟩⟩
      · rcases List.mem_append.1 hk with hk | hk
        · exact hg k hk m hm
        · rw [List.mem_singleton.1 hk] at hm; cases hm
      · unfold linesP
        rw [epre, ← q]
        show _ = linesU hs ++ headL a (0 + x) b (0 + y) :: []
        rw [Nat.zero_add, Nat.zero_add]
theorem go_soff : ∀ (l : List (List UInt8)) {pre : List (List UInt8)} {hs hs' : List Hunk} {i o n o' n' : Nat}, Soff pre hs o n → goU l i hs o n = (none, hs', o', n') → Soff (pre ++ l) hs' o' n'
  | [], pre, hs, hs', i, o, n, o', n', hp, h => by
    rw [goU] at h
    injection h with _ h
    injection h with e1 h
    injection h with e2 e3
    subst e1; subst e2; subst e3
    rw [List.append_nil]; exact hp
  | s :: r, pre, hs, hs', i, o, n, o', n', hp, h => by
    rw [goU] at h
    cases hr : readLine hs o n s with
    | none =>
      rw [hr] at h
      injection h with h _
      cases h
    | some p =>
      obtain ⟨h1, o1, n1⟩ := p
      rw [hr] at h
      have := go_soff r (line_soff hp hr) h
      rwa [List.append_assoc] at this
/-- what was read to its end was written so -/
theorem read_lines {l : List (List UInt8)} {hs : List Hunk} {i : Nat} (h : goU l i [] 0 0 = (none, hs, 0, 0)) : linesU hs = l := by
  have := go_soff l (pre := []) ⟨fun k hk => (by cases hk), .inl ⟨rfl, rfl, rfl⟩⟩ h
  rw [List.nil_append] at this
  rcases this.2 with ⟨_, _, q⟩ | ⟨a, b, rfl, q⟩
  · exact q.symm
  · rw [q, linesP_full]
end Go.Proofs.YtgabchhplmncnaaDoor
namespace Go.Proofs.YtgabchhplmncnaaDoor

theorem parts_text : ∀ (ls : List (List UInt8)) (r : List UInt8), (∀ x ∈ ls, ∀ c ∈ x, c ≠ 10) → parts 10 (textL ls ++ r) = ls ++ parts 10 r
  | [], _, _ => rfl
  | x :: ls, r, h => by
    have e : textL (x :: ls) ++ r = x ++ 10 :: (textL ls ++ r) := by
      show (x ++ [10] ++ textL ls) ++ r = _
      simp
    rw [e, parts_cut _ (h x (List.mem_cons_self ..)), parts_text ls r fun y hy => h y (List.mem_cons_of_mem _ hy)]
    rfl
/-- the place of a fault, the fault -/
def parseU (s : List UInt8) : List Hunk × Nat × Int :=
  if 400000 < s.length then ([], 0, 5) else match goU (parts 10 s).dropLast 0 [] 0 0 with
  | (some i, _, _, _) => ([], i, 5)
  | (none, hs, o, n) => if 0 < o ∨ 0 < n ∨ (parts 10 s).getLast? ≠ some [] then ([], (parts 10 s).length - 1, 5) else if (hunksFault hs).2 ≠ 0 then ([], 0, (hunksFault hs).2) else (hs, 0, 0)

/-! ### hunks that may be -/
theorem mark_ok {m : Mark} (h : markFault m = 0) : SignOk m ∧ (∀ c ∈ m.text.data.toList, c ≠ 10) ∧ m.text.size ≤ 80 := by
  unfold markFault at h
  by_cases hs : m.sign ≠ 32 ∧ m.sign ≠ 45 ∧ m.sign ≠ 43
  · rw [if_pos hs] at h; cases h
  · rw [if_neg hs] at h
    unfold lineFault at h
    cases hn : hasNl m.text with
    | true => rw [hn] at h; cases h
    | false =>
      rw [hn] at h
      refine ⟨?_, fun c hc e => ?_, ?_⟩
      · unfold SignOk
        by_cases h1 : m.sign = 32
        · exact .inl h1
        · by_cases h2 : m.sign = 45
          · exact .inr (.inl h2)
          · by_cases h3 : m.sign = 43
            · exact .inr (.inr h3)
            · exact absurd ⟨h1, h2, h3⟩ hs
      · subst e
        unfold hasNl at hn
        rw [List.contains_iff_mem.2 hc] at hn; cases hn
      · by_cases hz : 80 < m.text.size
        · rw [if_neg (by decide), if_pos hz] at h; cases h
        · omega
theorem marks_ok {ms : List Mark} (h : scriptFault ms = 0) : ∀ m ∈ ms, markFault m = 0 := by
  unfold scriptFault at h
  by_cases hl : 120 < ms.length
  · rw [if_pos hl] at h; cases h
  · rw [if_neg hl] at h
    exact (firstOf_zero markFault ms).1 h
theorem one_ok {h : Hunk} {fin more : Int} (e : oneFault h fin more = 0) : (∀ m ∈ h.marks, markFault m = 0) ∧ 0 ≤ h.old ∧ 0 ≤ h.new ∧ h.old + oldN h.marks ≤ 60 ∧ h.new + newN h.marks ≤ 60 ∧ fin ≤ h.old ∧ h.new = h.old + more := by
  unfold oneFault at e
  by_cases h1 : scriptFault h.marks ≠ 0
  · rw [if_pos h1] at e; exact absurd e h1
  · rw [if_neg h1] at e
    by_cases h2 : hasChange h.marks = false
    · rw [if_pos h2] at e; cases e
    · rw [if_neg h2] at e
      by_cases h3 : h.old < 0 ∨ 60 < h.old ∨ h.new < 0 ∨ 60 < h.new ∨ 60 < h.old + oldN h.marks ∨ 60 < h.new + newN h.marks
      · rw [if_pos h3] at e; cases e
      · rw [if_neg h3] at e
        by_cases h4 : h.old < fin ∨ h.new ≠ h.old + more
        · rw [if_pos h4] at e; cases e
        · refine ⟨marks_ok (by simpa using h1), ?_, ?_, ?_, ?_, ?_, ?_⟩ <;> omega
theorem one_head {h : Hunk} {fin more : Int} (e : oneFault h fin more = 0) : HeadOk h := by
  obtain ⟨q1, q2, q3, q4, q5, _⟩ := one_ok e
  exact ⟨q2, by omega, q3, by omega, by omega, by omega, fun m hm => (mark_ok (q1 m hm)).1⟩
theorem dec_len {n : Nat} (h : n < 1000) : (Lib.decDigits n).length ≤ 3 := by rw [digits_three h]; exact dec3_len n h
theorem span_len {a : Int} {m : Nat} (h0 : 0 ≤ a) (h1 : a < 999) (hm : m < 1000) : (spanL a m).length ≤ 7 := by
  obtain ⟨x, hx, hx3⟩ : ∃ x : Nat, (if 0 < m then a + 1 else a) = (x : Int) ∧ x < 1000 := ⟨(if 0 < m then a + 1 else a).toNat, by split <;> omega, by split <;> omega⟩
  unfold spanL
  rw [hx, itoa_nat, itoa_nat, List.length_append, List.length_append]
  have := dec_len hx3
  have := dec_len hm
  simp only [List.length_singleton]
  omega
theorem head_len {h : Hunk} (hh : HeadOk h) : (headL h.old (oldN h.marks) h.new (newN h.marks)).length ≤ 23 := by
  obtain ⟨h1, h2, h3, h4, h5, h6, _⟩ := hh
  have := span_len h1 h2 h5
  have := span_len h3 h4 h6
  unfold headL atAt endAt
  simp only [List.length_append, List.length_cons, List.length_nil]
  omega
theorem marks_len : ∀ (ms : List Mark), (∀ m ∈ ms, markFault m = 0) → (textL (ms.map markL)).length ≤ 82 * (oldN ms + newN ms)
  | [], _ => by simp [textL]
  | m :: ms, h => by
    have ih := marks_len ms fun k hk => h k (List.mem_cons_of_mem _ hk)
    obtain ⟨q1, _, q3⟩ := mark_ok (h m (List.mem_cons_self ..))
    have e : (textL ((m :: ms).map markL)).length = m.text.size + 2 + (textL (ms.map markL)).length := by
      show (markL m ++ [10] ++ textL (ms.map markL)).length = _
      unfold markL
      simp only [List.length_append, List.length_cons, List.length_nil, Array.length_toList, ByteArray.size_data]
    rw [e, oldN_cons, newN_cons]
    have : 1 ≤ (if m.sign ≠ 43 then 1 else 0) + (if m.sign ≠ 45 then 1 else 0) := by
      rcases q1 with q | q | q <;> rw [q] <;> decide
    omega
theorem textL_app (a b : List (List UInt8)) : textL (a ++ b) = textL a ++ textL b := by unfold textL; rw [List.map_append, List.flatten_append]
theorem hunk_len {h : Hunk} {fin more : Int} (e : oneFault h fin more = 0) : (textL (hunkL h)).length ≤ 24 + 82 * (oldN h.marks + newN h.marks) := by
  have h1 := head_len (one_head e)
  have h2 := marks_len h.marks (one_ok e).1
  have : (textL (hunkL h)).length = (headL h.old (oldN h.marks) h.new (newN h.marks)).length + 1 + (textL (h.marks.map markL)).length := by
    show (headL h.old (oldN h.marks) h.new (newN h.marks) ++ [10] ++ textL (h.marks.map markL)).length = _
    simp only [List.length_append, List.length_singleton]
  omega
theorem go_ok : ∀ (l : List Hunk) (i : Nat) (fin more : Int), fin ≤ 60 → fin + more ≤ 60 → (hunksGo i fin more l).2 = 0 →
    (∀ h ∈ l, HeadOk h) ∧ (∀ x ∈ linesU l, ∀ c ∈ x, c ≠ 10) ∧ ((textL (linesU l)).length : Int) ≤ 24 * l.length + 82 * ((60 - fin) + (60 - fin - more))
  | [], _, fin, more, h1, h2, _ => ⟨fun _ h => (by cases h), fun _ h => (by cases h), by show (0 : Int) ≤ 24 * 0 + _; omega⟩
  | h :: l, i, fin, more, h1, h2, e => by
    rw [hunksGo] at e
    by_cases h0 : oneFault h fin more = 0
    · rw [if_pos h0] at e
      obtain ⟨q1, q2, q3, q4, q5, q6, q7⟩ := one_ok h0
      obtain ⟨i1, i2, i3⟩ := go_ok l (i + 1) (h.old + oldN h.marks) (more + newN h.marks - oldN h.marks) (by omega) (by omega) e
      have hl := hunk_len h0
      have eu : linesU (h :: l) = hunkL h ++ linesU l := rfl
      refine ⟨fun k hk => ?_, fun x hx c hc => ?_, ?_⟩
      · rcases List.mem_cons.1 hk with rfl | hk
        · exact one_head h0
        · exact i1 k hk
      · rw [eu] at hx
        rcases List.mem_append.1 hx with hx | hx
        · obtain ⟨a1, a2, a3, a4, a5, a6, a7⟩ := one_head h0
          rcases List.mem_cons.1 hx with rfl | hx
          · have dig : ∀ {a : Int} {m : Nat}, 0 ≤ a → a < 999 → m < 1000 → ∀ d ∈ spanL a m, d ≠ 10 := fun b0 b1 b2 d hd e => by
              have := span_chars b0 b1 b2 hd
              rw [e] at this
              exact absurd this (by decide)
            unfold headL atAt endAt at hc
            intro e
            rcases List.mem_append.1 hc with hc | hc
            · rw [e] at hc; exact absurd hc (by decide)
            · rcases List.mem_append.1 hc with hc | hc
              · rcases List.mem_append.1 hc with hc | hc
                · rcases List.mem_append.1 hc with hc | hc
                  · exact dig a1 a2 a5 c hc e
                  · rw [e] at hc; exact absurd hc (by decide)
                · exact dig a3 a4 a6 c hc e
              · rw [e] at hc; exact absurd hc (by decide)
          · obtain ⟨m, hm, rfl⟩ := List.mem_map.1 hx
            obtain ⟨s1, s2, _⟩ := mark_ok (q1 m hm)
            rcases List.mem_cons.1 hc with rfl | hc
            · unfold signOf
              rcases s1 with s | s | s <;> rw [s] <;> decide
            · exact s2 c hc
        · exact i2 x hx c hc
      · rw [eu, textL_app, List.length_append, List.length_cons]
        omega
    · rw [if_neg h0] at e
      exact absurd e h0
theorem hunks_ok {l : List Hunk} (e : (hunksFault l).2 = 0) : (∀ h ∈ l, HeadOk h) ∧ (∀ x ∈ linesU l, ∀ c ∈ x, c ≠ 10) ∧ (textU l).length ≤ 400000 := by
  unfold hunksFault at e
  by_cases hl : 60 < l.length
  · rw [if_pos hl] at e; cases e
  · rw [if_neg hl] at e
    obtain ⟨h1, h2, h3⟩ := go_ok l 0 0 0 (by decide) (by decide) e
    refine ⟨h1, h2, ?_⟩
    show (textL (linesU l)).length ≤ _
    omega
/-- what is printed is read -/
theorem print_parse {l : List Hunk} (e : (hunksFault l).2 = 0) : parseU (textU l) = (l, 0, 0) := by
  obtain ⟨h1, h2, h3⟩ := hunks_ok e
  unfold parseU
  rw [if_neg (by omega)]
  have hp : parts 10 (textU l) = linesU l ++ [[]] := by
    have := parts_text (linesU l) [] h2
    rwa [List.append_nil] at this
  have hg : goU (linesU l) 0 [] 0 0 = (none, l, 0, 0) := by
    have := go_hunks [] l [] 0 h1
    rwa [List.append_nil] at this
  rw [hp, List.dropLast_concat, hg]
  simp only
  rw [if_neg (by rw [List.getLast?_append]; simp), if_neg (by rw [e]; simp)]
/-- what is read is printed so -/
theorem parse_print {s : List UInt8} {hs : List Hunk} {p : Nat} (h : parseU s = (hs, p, 0)) : textU hs = s ∧ (hunksFault hs).2 = 0 ∧ p = 0 := by
  unfold parseU at h
  by_cases hl : 400000 < s.length
  · rw [if_pos hl] at h
    injection h with _ h
    injection h with _ h
    cases h
  · rw [if_neg hl] at h
    cases hg : goU (parts 10 s).dropLast 0 [] 0 0 with
    | mk a b =>
      obtain ⟨hs', o, n⟩ := b
      rw [hg] at h
      cases a with
      | some i =>
        injection h with _ h
        injection h with _ h
        cases h
      | none =>
        simp only at h
        by_cases hc : 0 < o ∨ 0 < n ∨ (parts 10 s).getLast? ≠ some []
        · rw [if_pos hc] at h
          injection h with _ h
          injection h with _ h
          cases h
        · rw [if_neg hc] at h
          by_cases hf : (hunksFault hs').2 ≠ 0
          · rw [if_pos hf] at h
            injection h with _ h
            injection h with _ h
            exact absurd h hf
          · rw [if_neg hf] at h
            injection h with h1 h
            injection h with h2 _
            subst h1
            have ho : o = 0 := by omega
            have hn : n = 0 := by omega
            subst ho; subst hn
            have el := read_lines hg
            have hlast : (parts 10 s).getLast? = some [] := by
              by_cases q : (parts 10 s).getLast? = some []
              · exact q
              · exact absurd (.inr (.inr q)) hc
            refine ⟨?_, by simpa using hf, h2.symm⟩
            have := parts_flat 10 s
            rw [hlast, ← el] at this
            simpa [textU, textL] using this
/-- cut off within the last line: it is none, and not at once -/
theorem parse_cut {l : List Hunk} {ls : List (List UInt8)} {x y : List UInt8} (e : (hunksFault l).2 = 0) (hl : linesU l = ls ++ [x]) (hy : y ≠ []) (hy10 : ∀ c ∈ y, c ≠ 10) (hlen : y.length ≤ x.length)
    {hs : List Hunk} {o n : Nat} (hg : goU ls 0 [] 0 0 = (none, hs, o, n)) : parseU (textL ls ++ y) = ([], ls.length, 5) := by
  obtain ⟨h1, h2, h3⟩ := hunks_ok e
  have hln : (textL ls ++ y).length ≤ 400000 := by
    have : (textU l).length = (textL ls).length + (x.length + 1) := by
      show (textL (linesU l)).length = _
      rw [hl, textL_app, List.length_append]
      show _ + (x ++ [10] ++ []).length = _
      simp
    rw [List.length_append]; omega
  unfold parseU
  rw [if_neg (by omega)]
  have hp : parts 10 (textL ls ++ y) = ls ++ [y] := by
    rw [parts_text ls y fun z hz => h2 z (by rw [hl]; exact List.mem_append_left _ hz), parts_none hy10]
  rw [hp, List.dropLast_concat, hg]
  simp only
  rw [if_pos (.inr (.inr (by rw [List.getLast?_append]; simpa using hy)))]
  simp
end Go.Proofs.YtgabchhplmncnaaDoor
namespace Go.Proofs.YtgabchhplmncnaaDoor

def noneL : List UInt8 := [47, 100, 101, 118, 47, 110, 117, 108, 108]
def mmL : List UInt8 := [45, 45, 45, 32]
def ppL : List UInt8 := [43, 43, 43, 32]
def fromL (w : Int) (p : List UInt8) : List UInt8 := if w = 2 then noneL else [97, 47] ++ p
def toL (w : Int) (p : List UInt8) : List UInt8 := if w = 3 then noneL else [98, 47] ++ p
def changeL (c : Change) : List (List UInt8) := (mmL ++ fromL c.what c.path.data.toList) :: (ppL ++ toL c.what c.path.data.toList) :: linesU c.hunks
def linesG (p : List Change) : List (List UInt8) := p.flatMap changeL
/-- what two lines say -/
def headedR (a b : List UInt8) : Option (Int × List UInt8) := match dropPre [97, 47] a, dropPre [98, 47] b with
  | some f, some t => if f = t then some (1, f) else none
  | none, some t => if a = noneL then some (2, t) else none
  | some f, none => if b = noneL then some (3, f) else none
  | none, none => none
def headedL (a b : List UInt8) : Option (Int × List UInt8) := match dropPre mmL a, dropPre ppL b with
  | some a, some b => headedR a b
  | _, _ => none
theorem headed_back {w : Int} (p : List UInt8) (h : w = 1 ∨ w = 2 ∨ w = 3) : headedL (mmL ++ fromL w p) (ppL ++ toL w p) = some (w, p) := by
  unfold headedL
  rw [pre_app, pre_app]
  simp only
  unfold headedR
  rcases h with rfl | rfl | rfl
  · rw [show fromL 1 p = [97, 47] ++ p from rfl, show toL 1 p = [98, 47] ++ p from rfl, pre_app, pre_app]
    simp
  · rw [show fromL 2 p = noneL from rfl, show toL 2 p = [98, 47] ++ p from rfl, pre_app, show dropPre [97, 47] noneL = none from rfl]
    simp
  · rw [show fromL 3 p = [97, 47] ++ p from rfl, show toL 3 p = noneL from rfl, pre_app, show dropPre [98, 47] noneL = none from rfl]
    simp
theorem headed_some {a b p : List UInt8} {w : Int} (h : headedL a b = some (w, p)) : (w = 1 ∨ w = 2 ∨ w = 3) ∧ a = mmL ++ fromL w p ∧ b = ppL ++ toL w p := by
  unfold headedL at h
  cases ha : dropPre mmL a with
  | none => rw [ha] at h; cases h
  | some x =>
    cases hb : dropPre ppL b with
    | none => rw [ha, hb] at h; cases h
    | some y =>
      rw [ha, hb] at h
      simp only at h
      rw [pre_some ha, pre_some hb]
      unfold headedR at h
      cases hf : dropPre [97, 47] x with
      | none =>
        cases ht : dropPre [98, 47] y with
        | none => rw [hf, ht] at h; cases h
        | some t =>
          rw [hf, ht] at h
          simp only at h
          by_cases e : x = noneL
          · rw [if_pos e] at h
            injection h with h
            injection h with h1 h2
            subst h1; subst h2
            exact ⟨.inr (.inl rfl), by rw [e]; rfl, by rw [pre_some ht]; rfl⟩
          · rw [if_neg e] at h; cases h
      | some f =>
        cases ht : dropPre [98, 47] y with
        | none =>
          rw [hf, ht] at h
          simp only at h
          by_cases e : y = noneL
          · rw [if_pos e] at h
            injection h with h
            injection h with h1 h2
            subst h1; subst h2
            exact ⟨.inr (.inr rfl), by rw [pre_some hf]; rfl, by rw [e]; rfl⟩
          · rw [if_neg e] at h; cases h
        | some t =>
          rw [hf, ht] at h
          simp only at h
          by_cases e : f = t
          · rw [if_pos e] at h
            injection h with h
            injection h with h1 h2
            subst h1; subst h2
            exact ⟨.inl rfl, by rw [pre_some hf]; rfl, by rw [pre_some ht, e]; rfl⟩
          · rw [if_neg e] at h; cases h
def hunkHead (s : List UInt8) : Bool := [64, 64].isPrefixOf s
/-- hunks are read as long as there are some: these, the lines behind -/
def takeU : List (List UInt8) → List Hunk → Nat → Nat → Option (List Hunk × List (List UInt8))
  | [], hs, o, n => if 0 < o ∨ 0 < n then none else some (hs, [])
  | s :: r, hs, o, n => if (0 < o ∨ 0 < n) ∨ hunkHead s = true then match readLine hs o n s with
      | none => none
      | some (hs', o', n') => takeU r hs' o' n'
    else some (hs, s :: r)
def changesG : Nat → List (List UInt8) → Option (List Change)
  | _, [] => some []
  | 0, _ :: _ => none
  | _ + 1, [_] => none
  | k + 1, a :: b :: r => match headedL a b with
    | none => none
    | some (w, p) => match takeU r [] 0 0 with
      | none => none
      | some (hs, rest) => (changesG k rest).map fun q => ⟨w, toB p, hs⟩ :: q
theorem take_cons {s : List UInt8} {hs hs' : List Hunk} {o n o' n' : Nat} (h0 : (0 < o ∨ 0 < n) ∨ hunkHead s = true) (h : readLine hs o n s = some (hs', o', n')) (r : List (List UInt8)) : takeU (s :: r) hs o n = takeU r hs' o' n' := by
  rw [takeU, if_pos h0, h]
theorem take_marks (rest : List (List UInt8)) (hs : List Hunk) (a b : Int) : ∀ (ms done : List Mark) (o n : Nat), (∀ m ∈ ms, SignOk m) →
    takeU (ms.map markL ++ rest) (hs ++ [⟨a, b, done⟩]) (oldN ms + o) (newN ms + n) = takeU rest (hs ++ [⟨a, b, done ++ ms⟩]) o n
  | [], done, o, n, _ => by
    show takeU rest _ (0 + o) (0 + n) = _
    rw [Nat.zero_add, Nat.zero_add, List.append_nil]
  | m :: ms, done, o, n, h => by
    have h1 := h m (List.mem_cons_self ..)
    have hop : 0 < (if m.sign ≠ 43 then 1 else 0) + (oldN ms + o) ∨ 0 < (if m.sign ≠ 45 then 1 else 0) + (newN ms + n) := by
      rcases h1 with e | e | e <;> rw [e] <;> simp <;> omega
    rw [oldN_cons, newN_cons, Nat.add_assoc, Nat.add_assoc, List.map_cons, List.cons_append, take_cons (.inl hop) (read_mark h1 hs _), take_marks rest hs a b ms (done ++ [m]) o n (fun k hk => h k (List.mem_cons_of_mem _ hk)), List.append_assoc]
    rfl
theorem take_hunk {h : Hunk} (hh : HeadOk h) (rest : List (List UInt8)) (hs : List Hunk) : takeU (hunkL h ++ rest) hs 0 0 = takeU rest (hs ++ [h]) 0 0 := by
  obtain ⟨h1, h2, h3, h4, h5, h6, h7⟩ := hh
  unfold hunkL
  have e : readLine hs 0 0 (headL h.old (oldN h.marks) h.new (newN h.marks)) = some (hs ++ [⟨h.old, h.new, []⟩], oldN h.marks, newN h.marks) := by
    unfold readLine
    rw [if_neg (by omega), head_back h1 h2 h5 h3 h4 h6]
  rw [List.cons_append, take_cons (.inr rfl) e]
  have := take_marks rest hs h.old h.new h.marks [] 0 0 h7
  simp only [Nat.add_zero, List.nil_append] at this
  rw [this]
theorem take_hunks {rest : List (List UInt8)} (hr : ∀ s r, rest = s :: r → hunkHead s = false) : ∀ (l hs : List Hunk), (∀ h ∈ l, HeadOk h) → takeU (linesU l ++ rest) hs 0 0 = some (hs ++ l, rest)
  | [], hs, _ => by
    rw [List.append_nil]
    show takeU rest hs 0 0 = _
    cases rest with
    | nil => rw [takeU, if_neg (by omega)]
    | cons s r => rw [takeU, if_neg (by rw [hr s r rfl]; simp)]
  | h :: l, hs, hl => by
    have e : linesU (h :: l) = hunkL h ++ linesU l := rfl
    rw [e, List.append_assoc, take_hunk (hl h (List.mem_cons_self ..)), take_hunks hr l (hs ++ [h]) (fun k hk => hl k (List.mem_cons_of_mem _ hk)), List.append_assoc]
    rfl
/-- what is printed is read -/
theorem changes_back : ∀ (p : List Change) (k : Nat), (linesG p).length ≤ k → (∀ c ∈ p, (c.what = 1 ∨ c.what = 2 ∨ c.what = 3) ∧ ∀ h ∈ c.hunks, HeadOk h) → changesG k (linesG p) = some p
  | [], k, _, _ => by rw [show linesG [] = [] from rfl, changesG]
  | c :: p, k, hk, h => by
    have e : linesG (c :: p) = (mmL ++ fromL c.what c.path.data.toList) :: (ppL ++ toL c.what c.path.data.toList) :: (linesU c.hunks ++ linesG p) := rfl
    rw [e] at hk ⊢
    obtain ⟨k, rfl⟩ : ∃ j, k = j + 1 := ⟨k - 1, by simp at hk; omega⟩
    obtain ⟨hw, hh⟩ := h c (List.mem_cons_self ..)
    have hr : ∀ s r, linesG p = s :: r → hunkHead s = false := fun s r q => by
      cases p with
      | nil => cases q
      | cons d p =>
        have q' : (mmL ++ fromL d.what d.path.data.toList) :: _ = s :: r := q
        injection q' with q1 _
        rw [← q1]; rfl
    rw [changesG, headed_back _ hw]
    simp only
    rw [take_hunks hr c.hunks [] hh]
    simp only
    rw [changes_back p k (by simp at hk; omega) (fun d hd => h d (List.mem_cons_of_mem _ hd)), toB_of]
    rfl
theorem take_soff : ∀ (l : List (List UInt8)) {pre : List (List UInt8)} {hs hs' : List Hunk} {o n : Nat} {rest : List (List UInt8)}, Soff pre hs o n → takeU l hs o n = some (hs', rest) → ∃ used, l = used ++ rest ∧ Soff (pre ++ used) hs' 0 0
  | [], pre, hs, hs', o, n, rest, hp, h => by
    rw [takeU] at h
    by_cases q : 0 < o ∨ 0 < n
    · rw [if_pos q] at h; cases h
    · rw [if_neg q] at h
      injection h with h
      injection h with h1 h2
      subst h1; subst h2
      have ho : o = 0 := by omega
      have hn : n = 0 := by omega
      subst ho; subst hn
      exact ⟨[], rfl, by rw [List.append_nil]; exact hp⟩
  | s :: r, pre, hs, hs', o, n, rest, hp, h => by
    rw [takeU] at h
    by_cases q : (0 < o ∨ 0 < n) ∨ hunkHead s = true
    · rw [if_pos q] at h
      cases hr : readLine hs o n s with
      | none => rw [hr] at h; cases h
      | some x =>
        obtain ⟨h1, o1, n1⟩ := x
        rw [hr] at h
        obtain ⟨used, e, hu⟩ := take_soff r (line_soff hp hr) h
        exact ⟨s :: used, by rw [e]; rfl, by rw [List.append_assoc] at hu; exact hu⟩
    · rw [if_neg q] at h
      injection h with h
      injection h with h1 h2
      subst h1; subst h2
      have ho : o = 0 := by omega
      have hn : n = 0 := by omega
      subst ho; subst hn
      exact ⟨[], rfl, by rw [List.append_nil]; exact hp⟩
/-- what is read is printed so -/
theorem changes_some : ∀ (k : Nat) (l : List (List UInt8)) (p : List Change), changesG k l = some p → linesG p = l
  | k, [], p, h => by
    rw [changesG] at h
    injection h with h
    subst h; rfl
  | 0, _ :: _, _, h => by rw [changesG] at h; cases h
  | _ + 1, [_], _, h => by rw [changesG] at h; cases h
  | k + 1, a :: b :: r, p, h => by
    rw [changesG] at h
    cases hh : headedL a b with
    | none => rw [hh] at h; cases h
    | some x =>
      obtain ⟨w, t⟩ := x
      rw [hh] at h
      simp only at h
      cases ht : takeU r [] 0 0 with
      | none => rw [ht] at h; cases h
      | some x =>
        obtain ⟨hs, rest⟩ := x
        rw [ht] at h
        simp only at h
        cases hc : changesG k rest with
        | none => rw [hc] at h; cases h
        | some q =>
          rw [hc] at h
          injection h with h
          subst h
          obtain ⟨_, e1, e2⟩ := headed_some hh
          obtain ⟨used, e3, hu⟩ := take_soff r (pre := []) ⟨fun k hk => (by cases hk), .inl ⟨rfl, rfl, rfl⟩⟩ ht
          have e4 : linesU hs = used := by
            rw [List.nil_append] at hu
            rcases hu.2 with ⟨_, _, z⟩ | ⟨c, d, rfl, z⟩
            · exact z.symm
            · rw [z, linesP_full]
          show (mmL ++ fromL w (toB t).data.toList) :: (ppL ++ toL w (toB t).data.toList) :: (linesU hs ++ linesG q) = _
          rw [toB_data, ← e1, ← e2, e4, changes_some k rest q hc, e3]
end Go.Proofs.YtgabchhplmncnaaDoor
namespace Go.Proofs.YtgabchhplmncnaaDoor

/-! ### the order of paths -/
theorem bl_cons (a b : UInt8) (x y : List UInt8) : Op.bytesLess (a :: x) (b :: y) = (decide (a < b) || (a == b && Op.bytesLess x y)) := by rw [Op.bytesLess]
theorem bl_nil_r (x : List UInt8) : Op.bytesLess x [] = false := by cases x <;> rfl
theorem bl_nil_l (b : UInt8) (y : List UInt8) : Op.bytesLess [] (b :: y) = true := rfl
theorem bl_irrefl : ∀ x : List UInt8, Op.bytesLess x x = false
  | [] => rfl
  | a :: x => by rw [bl_cons, bl_irrefl x]; simp
theorem bl_trans : ∀ {x y z : List UInt8}, Op.bytesLess x y = true → Op.bytesLess y z = true → Op.bytesLess x z = true
  | _, [], _, h, _ => by rw [bl_nil_r] at h; cases h
  | _, _ :: _, [], _, h => by rw [bl_nil_r] at h; cases h
  | [], _ :: _, _ :: _, _, _ => rfl
  | a :: x, b :: y, c :: z, h, g => by
    rw [bl_cons] at h g ⊢
    simp only [Bool.or_eq_true, decide_eq_true_eq, Bool.and_eq_true, beq_iff_eq] at h g ⊢
    rcases h with h | ⟨rfl, h⟩
    · rcases g with g | ⟨rfl, g⟩
      · exact .inl (UInt8.lt_trans h g)
      · exact .inl h
    · rcases g with g | ⟨rfl, g⟩
      · exact .inl g
      · exact .inr ⟨rfl, bl_trans h g⟩
theorem bl_tri : ∀ x y : List UInt8, Op.bytesLess x y = true ∨ x = y ∨ Op.bytesLess y x = true
  | [], [] => .inr (.inl rfl)
  | [], _ :: _ => .inl rfl
  | _ :: _, [] => .inr (.inr rfl)
  | a :: x, b :: y => by
    rw [bl_cons, bl_cons]
    simp only [Bool.or_eq_true, decide_eq_true_eq, Bool.and_eq_true, beq_iff_eq, List.cons.injEq]
    rcases Nat.lt_trichotomy a.toNat b.toNat with h | h | h
    · exact .inl (.inl (UInt8.lt_iff_toNat_lt.2 h))
    · have hab : a = b := UInt8.toNat_inj.1 h
      subst hab
      rcases bl_tri x y with h | h | h
      · exact .inl (.inr ⟨rfl, h⟩)
      · exact .inr (.inl ⟨rfl, h⟩)
      · exact .inr (.inr (.inr ⟨rfl, h⟩))
    · exact .inr (.inr (.inl (UInt8.lt_iff_toNat_lt.2 h)))
theorem compare_bl : ∀ x y : List UInt8, (Lib.compareBytes x y < 0 ↔ Op.bytesLess x y = true) ∧ (Lib.compareBytes x y = 0 ↔ x = y)
  | [], [] => by simp [Lib.compareBytes, Op.bytesLess]
  | [], _ :: _ => by simp [Lib.compareBytes, Op.bytesLess]
  | _ :: _, [] => by simp [Lib.compareBytes, Op.bytesLess]
  | a :: x, b :: y => by
    obtain ⟨i1, i2⟩ := compare_bl x y
    rw [bl_cons, Lib.compareBytes]
    by_cases h1 : a < b
    · have : a ≠ b := by rintro rfl; exact absurd h1 (UInt8.lt_irrefl a)
      simp [h1, this]
    · by_cases h2 : b < a
      · have : a ≠ b := by rintro rfl; exact absurd h2 (UInt8.lt_irrefl a)
        simp [h1, h2, this]
      · have hab : a = b := by
          have n1 : ¬ a.toNat < b.toNat := fun h => h1 (UInt8.lt_iff_toNat_lt.2 h)
          have n2 : ¬ b.toNat < a.toNat := fun h => h2 (UInt8.lt_iff_toNat_lt.2 h)
          exact UInt8.toNat_inj.1 (by omega)
        subst hab
        simp [h1, i1, i2]
def less (a b : ByteArray) : Bool := Op.bytesLess a.toList b.toList
theorem toList_inj {a b : ByteArray} (h : a.toList = b.toList) : a = b := by
  rw [Lib.toList_data, Lib.toList_data] at h
  exact ByteArray.ext (Array.toList_inj.1 h)
theorem less_irrefl (a : ByteArray) : less a a = false := bl_irrefl _
theorem less_trans {a b c : ByteArray} (h : less a b = true) (g : less b c = true) : less a c = true := bl_trans h g
theorem less_tri (a b : ByteArray) : less a b = true ∨ a = b ∨ less b a = true := by
  rcases bl_tri a.toList b.toList with h | h | h
  · exact .inl h
  · exact .inr (.inl (toList_inj h))
  · exact .inr (.inr h)
theorem less_asymm {a b : ByteArray} (h : less a b = true) : less b a = false := by
  cases hb : less b a with
  | false => rfl
  | true =>
    have := less_trans h hb
    rw [less_irrefl] at this
    cases this
theorem less_ne {a b : ByteArray} (h : less a b = true) : a ≠ b := by
  rintro rfl
  rw [less_irrefl] at h
  cases h
/-- the walk's 'a <= b' -/
def leqB (a b : ByteArray) : Bool := Op.bytesLess a.toList b.toList || a.toList == b.toList
theorem leqB_true {a b : ByteArray} : leqB a b = true ↔ less b a = false := by
  unfold leqB
  rw [Bool.or_eq_true, beq_iff_eq]
  constructor
  · rintro (h | h)
    · exact less_asymm h
    · rw [toList_inj h]; exact less_irrefl b
  · intro h
    rcases less_tri a b with g | g | g
    · exact .inl g
    · exact .inr (by rw [g])
    · rw [g] at h; cases h

/-! ### trees -/
def fileFault (f : File) : Int := if pathFault f.path = 0 then linesFault f.lines else pathFault f.path
def treeGo : Nat → Option ByteArray → List File → Nat × Int
  | _, _, [] => (0, 0)
  | i, prev, f :: r => if fileFault f ≠ 0 then (i, fileFault f) else if prev.any (fun p => leqB f.path p) = true then (i, 2) else treeGo (i + 1) (some f.path) r
def treeFault (t : List File) : Nat × Int := if 8 < t.length then (0, 3) else treeGo 0 none t
def Sorted (t : List File) : Prop := t.Pairwise fun f g => less f.path g.path = true

theorem treeGo_zero : ∀ (t : List File) (i : Nat) (prev : Option ByteArray), (treeGo i prev t).2 = 0 → (∀ f ∈ t, fileFault f = 0) ∧ Sorted t ∧ (∀ p f, prev = some p → f ∈ t → less p f.path = true) ∧ treeGo i prev t = (0, 0)
  | [], _, _, _ => ⟨by simp, List.Pairwise.nil, by simp, rfl⟩
  | f :: r, i, prev, h => by
    rw [treeGo] at h ⊢
    by_cases h1 : fileFault f ≠ 0
    · rw [if_pos h1] at h; exact absurd h h1
    · rw [if_neg h1] at h ⊢
      by_cases h2 : prev.any (fun p => leqB f.path p) = true
      · rw [if_pos h2] at h; cases h
      · rw [if_neg h2] at h ⊢
        obtain ⟨i1, i2, i3, i4⟩ := treeGo_zero r (i + 1) (some f.path) h
        refine ⟨?_, ?_, ?_, i4⟩
        · intro x hx
          rcases List.mem_cons.1 hx with rfl | hx
          · simpa using h1
          · exact i1 x hx
        · exact List.Pairwise.cons (fun g hg => i3 f.path g rfl hg) i2
        · rintro p x rfl hx
          have hp : less p f.path = true := by
            simp only [Option.any_some] at h2
            rcases less_tri p f.path with g | g | g
            · exact g
            · exact absurd (leqB_true.2 (by rw [g]; exact less_irrefl _)) h2
            · exact absurd (leqB_true.2 (less_asymm g)) h2
          rcases List.mem_cons.1 hx with rfl | hx
          · exact hp
          · exact less_trans hp (i3 f.path x rfl hx)
theorem treeFault_zero {t : List File} (h : (treeFault t).2 = 0) : t.length ≤ 8 ∧ (∀ f ∈ t, fileFault f = 0) ∧ Sorted t ∧ treeFault t = (0, 0) := by
  unfold treeFault at h ⊢
  by_cases h1 : 8 < t.length
  · rw [if_pos h1] at h; cases h
  · rw [if_neg h1] at h ⊢
    obtain ⟨i1, i2, _, i4⟩ := treeGo_zero t 0 none h
    exact ⟨by omega, i1, i2, i4⟩
theorem fileFault_zero {f : File} (h : fileFault f = 0) : pathFault f.path = 0 ∧ linesFault f.lines = 0 := by
  unfold fileFault at h
  by_cases h1 : pathFault f.path = 0
  · rw [if_pos h1] at h; exact ⟨h1, h⟩
  · rw [if_neg h1] at h; exact absurd h h1

/-- where a path is, or would be -/
def posOf (t : List File) (p : ByteArray) : Nat := (t.takeWhile fun f => less f.path p).length
def isAt (t : List File) (p : ByteArray) : Bool := (t[posOf t p]?).any fun f => decide (f.path = p)
def placeOf (t : List File) (p : ByteArray) : Option Nat := t.findIdx? fun f => decide (f.path = p)
def putAt (t : List File) (f : File) : List File := t.take (posOf t f.path) ++ f :: t.drop (if isAt t f.path = true then posOf t f.path + 1 else posOf t f.path)
def dropAt (t : List File) (k : Nat) : List File := t.take k ++ t.drop (k + 1)
/-- the document's way to put -/
def putLoop (f : File) : Bool → List File → List File
  | done, [] => if done then [] else [f]
  | done, x :: r => (if !done && leqB f.path x.path then [f] else []) ++ (if x.path = f.path then [] else [x]) ++ putLoop f (done || leqB f.path x.path) r

theorem posOf_le (t : List File) (p : ByteArray) : posOf t p ≤ t.length := by
  unfold posOf
  exact (List.takeWhile_prefix _).length_le
theorem pos_unique {t : List File} {p : ByteArray} {i : Nat} (h1 : ∀ q f, q < i → t[q]? = some f → less f.path p = true) (h2 : ∀ f, t[i]? = some f → less f.path p = false) (hi : i ≤ t.length) : posOf t p = i := by
  induction t generalizing i with
  | nil => simp at hi; subst hi; rfl
  | cons x t ih =>
    unfold posOf at ih ⊢
    cases i with
    | zero =>
      have := h2 x rfl
      rw [List.takeWhile_cons, this]; rfl
    | succ i =>
      have := h1 0 x (Nat.succ_pos i) rfl
      rw [List.takeWhile_cons, this]
      simp only [if_true, List.length_cons]
      congr 1
      exact ih (fun q f hq hf => h1 (q + 1) f (by omega) (by simpa using hf)) (fun f hf => h2 f (by simpa using hf)) (by simpa using hi)
theorem sorted_mono {t : List File} (h : Sorted t) {i j : Nat} {f g : File} (hij : i < j) (hi : t[i]? = some f) (hj : t[j]? = some g) : less f.path g.path = true := by
  obtain ⟨hi1, hi2⟩ := List.getElem?_eq_some_iff.1 hi
  obtain ⟨hj1, hj2⟩ := List.getElem?_eq_some_iff.1 hj
  have := List.pairwise_iff_getElem.1 h i j hi1 hj1 hij
  rw [hi2, hj2] at this
  exact this
theorem putLoop_done (f : File) : ∀ t : List File, (∀ x ∈ t, less f.path x.path = true) → putLoop f true t = t
  | [], _ => rfl
  | x :: r, h => by
    have hx := h x (List.mem_cons_self ..)
    rw [putLoop, Bool.true_or, putLoop_done f r (fun y hy => h y (List.mem_cons_of_mem _ hy))]
    simp [(less_ne hx).symm]
theorem putLoop_sorted (f : File) : ∀ t : List File, Sorted t → putLoop f false t = putAt t f
  | [], _ => rfl
  | x :: r, h => by
    obtain ⟨h1, h2⟩ := List.pairwise_cons.1 h
    have ih := putLoop_sorted f r h2
    rcases less_tri x.path f.path with g | g | g
    · have e1 : leqB f.path x.path = false := by
        rw [Bool.eq_false_iff]; intro e
        rw [leqB_true.1 e] at g; cases g
      have e2 : posOf (x :: r) f.path = posOf r f.path + 1 := by unfold posOf; rw [List.takeWhile_cons, g]; rfl
      have e3 : isAt (x :: r) f.path = isAt r f.path := by unfold isAt; rw [e2, List.getElem?_cons_succ]
      rw [putLoop, e1, if_neg (less_ne g)]
      unfold putAt at ih ⊢
      rw [e2, e3, List.take_succ_cons]
      simp only [Bool.not_false, Bool.and_false, Bool.false_eq_true, if_false, List.nil_append, Bool.or_false, List.cons_append, List.cons.injEq, true_and]
      rw [ih]
      by_cases hi : isAt r f.path = true
      · rw [if_pos hi, if_pos hi]; rfl
      · rw [if_neg hi, if_neg hi]; rfl
    · have e1 : leqB f.path x.path = true := leqB_true.2 (by rw [g]; exact less_irrefl _)
      have e2 : posOf (x :: r) f.path = 0 := by unfold posOf; rw [List.takeWhile_cons, g, less_irrefl]; rfl
      have e3 : isAt (x :: r) f.path = true := by unfold isAt; rw [e2]; simp [g]
      rw [putLoop, e1, if_pos g, Bool.false_or, putLoop_done f r (fun y hy => by rw [← g]; exact h1 y hy)]
      unfold putAt
      rw [e2, if_pos e3]
      rfl
    · have e1 : leqB f.path x.path = true := leqB_true.2 (less_asymm g)
      have e2 : posOf (x :: r) f.path = 0 := by unfold posOf; rw [List.takeWhile_cons, less_asymm g]; rfl
      have e3 : isAt (x :: r) f.path = false := by unfold isAt; rw [e2]; simp [(less_ne g).symm]
      rw [putLoop, e1, if_neg (less_ne g).symm, Bool.false_or, putLoop_done f r (fun y hy => less_trans g (h1 y hy))]
      unfold putAt
      have e4 : (if isAt (x :: r) f.path = true then 0 + 1 else 0) = 0 := if_neg (by rw [e3]; decide)
      rw [e2, e4]
      rfl
theorem placeOf_sorted {t : List File} (h : Sorted t) (p : ByteArray) : placeOf t p = if isAt t p = true then some (posOf t p) else none := by
  induction t with
  | nil => rfl
  | cons x r ih =>
    obtain ⟨h1, h2⟩ := List.pairwise_cons.1 h
    have ih := ih h2
    unfold placeOf at ih ⊢
    rw [List.findIdx?_cons]
    rcases less_tri x.path p with g | g | g
    · have e2 : posOf (x :: r) p = posOf r p + 1 := by unfold posOf; rw [List.takeWhile_cons, g]; rfl
      have e3 : isAt (x :: r) p = isAt r p := by unfold isAt; rw [e2, List.getElem?_cons_succ]
      rw [decide_eq_false (less_ne g), e2, e3, ih]
      by_cases hi : isAt r p = true
      · simp [hi]
      · simp [hi]
    · have e2 : posOf (x :: r) p = 0 := by unfold posOf; rw [List.takeWhile_cons, g, less_irrefl]; rfl
      have e3 : isAt (x :: r) p = true := by unfold isAt; rw [e2]; simp [g]
      rw [decide_eq_true g, e2, e3]; rfl
    · have e2 : posOf (x :: r) p = 0 := by unfold posOf; rw [List.takeWhile_cons, less_asymm g]; rfl
      have e3 : isAt (x :: r) p = false := by unfold isAt; rw [e2]; simp [(less_ne g).symm]
      have hr : isAt r p = false := by
        unfold isAt
        cases hf : r[posOf r p]? with
        | none => rfl
        | some y => simp [(less_ne (less_trans g (h1 y (List.mem_of_getElem? hf)))).symm]
      rw [decide_eq_false (less_ne g).symm, e3, ih, hr]; rfl
theorem dropAt_is {t : List File} (p : ByteArray) : dropAt t (posOf t p) = t.take (posOf t p) ++ t.drop (posOf t p + 1) := rfl
end Go.Proofs.YtgabchhplmncnaaDoor
namespace Go.Proofs.YtgabchhplmncnaaDoor

def look (t : List File) (p : ByteArray) : Option (List ByteArray) := (t.find? fun f => decide (f.path = p)).map (·.lines)
theorem look_nil (p : ByteArray) : look [] p = none := rfl
theorem look_cons (x : File) (r : List File) (p : ByteArray) : look (x :: r) p = if x.path = p then some x.lines else look r p := by
  unfold look
  by_cases h : x.path = p
  · rw [List.find?_cons_of_pos (by simpa using h), if_pos h]; rfl
  · rw [List.find?_cons_of_neg (by simpa using h), if_neg h]
theorem look_none : ∀ {A : List File} {p : ByteArray}, (∀ x ∈ A, x.path ≠ p) → look A p = none
  | [], _, _ => rfl
  | x :: r, p, h => by rw [look_cons, if_neg (h x (List.mem_cons_self ..)), look_none fun y hy => h y (List.mem_cons_of_mem _ hy)]
theorem look_app : ∀ (A B : List File) (p : ByteArray), look (A ++ B) p = (look A p).or (look B p)
  | [], B, p => by simp [look_nil]
  | x :: A, B, p => by
    rw [List.cons_append, look_cons, look_cons, look_app A B p]
    by_cases h : x.path = p
    · rw [if_pos h, if_pos h]; rfl
    · rw [if_neg h, if_neg h]
theorem look_some : ∀ {A : List File} {p : ByteArray} {l : List ByteArray}, look A p = some l → ∃ x ∈ A, x.path = p ∧ x.lines = l
  | [], _, _, h => by cases h
  | x :: r, p, l, h => by
    rw [look_cons] at h
    by_cases e : x.path = p
    · rw [if_pos e] at h
      exact ⟨x, List.mem_cons_self .., e, Option.some.inj h⟩
    · rw [if_neg e] at h
      obtain ⟨y, hy, h2⟩ := look_some h
      exact ⟨y, List.mem_cons_of_mem _ hy, h2⟩
theorem look_mem {t : List File} (hs : Sorted t) {x : File} (h : x ∈ t) : look t x.path = some x.lines := by
  induction t with
  | nil => cases h
  | cons y r ih =>
    obtain ⟨h1, h2⟩ := List.pairwise_cons.1 hs
    rw [look_cons]
    rcases List.mem_cons.1 h with rfl | h
    · rw [if_pos rfl]
    · rw [if_neg (less_ne (h1 x h)), ih h2 h]

theorem tree_split {t : List File} (hs : Sorted t) (p : ByteArray) : ∃ A C : List File, (∀ x ∈ A, less x.path p = true) ∧ (∀ x ∈ C, less p x.path = true) ∧ Sorted A ∧ Sorted C ∧ posOf t p = A.length ∧
    ((isAt t p = true ∧ ∃ g, g.path = p ∧ t = A ++ g :: C) ∨ (isAt t p = false ∧ t = A ++ C)) := by
  induction t with
  | nil => exact ⟨[], [], by simp, by simp, List.Pairwise.nil, List.Pairwise.nil, rfl, .inr ⟨rfl, rfl⟩⟩
  | cons x r ih =>
    obtain ⟨h1, h2⟩ := List.pairwise_cons.1 hs
    rcases less_tri x.path p with g | g | g
    · obtain ⟨A, C, a1, a2, a3, a4, a5, a6⟩ := ih h2
      have e2 : posOf (x :: r) p = posOf r p + 1 := by unfold posOf; rw [List.takeWhile_cons, g]; rfl
      have e3 : isAt (x :: r) p = isAt r p := by unfold isAt; rw [e2, List.getElem?_cons_succ]
      have hA : Sorted (x :: A) := by
        refine List.Pairwise.cons (fun y hy => h1 y ?_) a3
        rcases a6 with ⟨_, w, _, rfl⟩ | ⟨_, rfl⟩
        · exact List.mem_append_left _ hy
        · exact List.mem_append_left _ hy
      refine ⟨x :: A, C, ?_, a2, hA, a4, by rw [e2, a5]; rfl, ?_⟩
      · intro y hy
        rcases List.mem_cons.1 hy with rfl | hy
        · exact g
        · exact a1 y hy
      · rw [e3]
        rcases a6 with ⟨b1, w, b2, b3⟩ | ⟨b1, b2⟩
        · exact .inl ⟨b1, w, b2, by rw [b3]; rfl⟩
        · exact .inr ⟨b1, by rw [b2]; rfl⟩
    · have e2 : posOf (x :: r) p = 0 := by unfold posOf; rw [List.takeWhile_cons, g, less_irrefl]; rfl
      exact ⟨[], r, by simp, fun y hy => by rw [← g]; exact h1 y hy, List.Pairwise.nil, h2, e2, .inl ⟨by unfold isAt; rw [e2]; simp [g], x, g, rfl⟩⟩
    · have e2 : posOf (x :: r) p = 0 := by unfold posOf; rw [List.takeWhile_cons, less_asymm g]; rfl
      refine ⟨[], x :: r, by simp, fun y hy => ?_, List.Pairwise.nil, hs, e2, .inr ⟨by unfold isAt; rw [e2]; simp [(less_ne g).symm], rfl⟩⟩
      rcases List.mem_cons.1 hy with rfl | hy
      · exact g
      · exact less_trans g (h1 y hy)
theorem sorted_join {A C : List File} {f : File} (a1 : ∀ x ∈ A, less x.path f.path = true) (a2 : ∀ x ∈ C, less f.path x.path = true) (a3 : Sorted A) (a4 : Sorted C) : Sorted (A ++ f :: C) := by
  refine List.pairwise_append.2 ⟨a3, List.Pairwise.cons a2 a4, fun x hx y hy => ?_⟩
  rcases List.mem_cons.1 hy with rfl | hy
  · exact a1 x hx
  · exact less_trans (a1 x hx) (a2 y hy)
theorem sorted_pair {A C : List File} {p : ByteArray} (a1 : ∀ x ∈ A, less x.path p = true) (a2 : ∀ x ∈ C, less p x.path = true) (a3 : Sorted A) (a4 : Sorted C) : Sorted (A ++ C) :=
  List.pairwise_append.2 ⟨a3, a4, fun x hx y hy => less_trans (a1 x hx) (a2 y hy)⟩
theorem isAt_look {t : List File} (hs : Sorted t) (p : ByteArray) : isAt t p = (look t p).isSome := by
  obtain ⟨A, C, a1, a2, _, _, _, a6⟩ := tree_split hs p
  rcases a6 with ⟨b1, w, b2, rfl⟩ | ⟨b1, rfl⟩
  · rw [b1, look_app, look_none fun x hx => less_ne (a1 x hx), look_cons, if_pos b2]; rfl
  · rw [b1, look_app, look_none fun x hx => less_ne (a1 x hx), look_none fun x hx => (less_ne (a2 x hx)).symm]; rfl
theorem posOf_look {t : List File} (hs : Sorted t) (p : ByteArray) : ((t[posOf t p]?).map (·.lines)).getD [] = (look t p).getD [] ∨ isAt t p = false := by
  obtain ⟨A, C, a1, a2, _, _, a5, a6⟩ := tree_split hs p
  rcases a6 with ⟨b1, w, b2, rfl⟩ | ⟨b1, _⟩
  · rw [a5, look_app, look_none fun x hx => less_ne (a1 x hx), look_cons, if_pos b2]
    exact .inl (by simp)
  · exact .inr b1
theorem putAt_is {t : List File} (hs : Sorted t) (f : File) : ∃ A C : List File, (∀ x ∈ A, less x.path f.path = true) ∧ (∀ x ∈ C, less f.path x.path = true) ∧ Sorted A ∧ Sorted C ∧ putAt t f = A ++ f :: C ∧
    ((isAt t f.path = true ∧ ∃ g, g.path = f.path ∧ t = A ++ g :: C) ∨ (isAt t f.path = false ∧ t = A ++ C)) := by
  obtain ⟨A, C, a1, a2, a3, a4, a5, a6⟩ := tree_split hs f.path
  refine ⟨A, C, a1, a2, a3, a4, ?_, a6⟩
  unfold putAt
  rcases a6 with ⟨b1, w, b2, rfl⟩ | ⟨b1, rfl⟩
  · rw [if_pos b1, a5, List.take_left' rfl, List.drop_append, List.drop_eq_nil_of_le (by omega)]
    simp
  · rw [if_neg (by rw [b1]; decide), a5, List.take_left' rfl, List.drop_left' rfl]
theorem putAt_sorted {t : List File} (hs : Sorted t) (f : File) : Sorted (putAt t f) := by
  obtain ⟨A, C, a1, a2, a3, a4, a5, _⟩ := putAt_is hs f
  rw [a5]
  exact sorted_join a1 a2 a3 a4
theorem putAt_look {t : List File} (hs : Sorted t) (f : File) (p : ByteArray) : look (putAt t f) p = if f.path = p then some f.lines else look t p := by
  obtain ⟨A, C, a1, a2, a3, a4, a5, a6⟩ := putAt_is hs f
  rw [a5, look_app, look_cons]
  by_cases e : f.path = p
  · rw [if_pos e, if_pos e, look_none fun x hx => by rw [← e]; exact less_ne (a1 x hx)]; rfl
  · rw [if_neg e, if_neg e]
    rcases a6 with ⟨b1, w, b2, rfl⟩ | ⟨b1, rfl⟩
    · rw [look_app, look_cons, if_neg (by rw [b2]; exact e)]
    · rw [look_app]
theorem putAt_len {t : List File} (hs : Sorted t) (f : File) : (putAt t f).length = if isAt t f.path = true then t.length else t.length + 1 := by
  obtain ⟨A, C, a1, a2, a3, a4, a5, a6⟩ := putAt_is hs f
  rw [a5]
  rcases a6 with ⟨b1, w, b2, rfl⟩ | ⟨b1, rfl⟩
  · rw [if_pos b1]; simp
  · rw [if_neg (by rw [b1]; decide)]; simp; omega
theorem putAt_mem {t : List File} {f x : File} (h : x ∈ putAt t f) : x = f ∨ x ∈ t := by
  unfold putAt at h
  rcases List.mem_append.1 h with h | h
  · exact .inr (List.mem_of_mem_take h)
  · rcases List.mem_cons.1 h with h | h
    · exact .inl h
    · exact .inr (List.mem_of_mem_drop h)
theorem dropAt_isp {t : List File} (hs : Sorted t) {p : ByteArray} (h : isAt t p = true) : ∃ A C : List File, (∀ x ∈ A, less x.path p = true) ∧ (∀ x ∈ C, less p x.path = true) ∧ Sorted A ∧ Sorted C ∧ dropAt t (posOf t p) = A ++ C ∧ ∃ g, g.path = p ∧ t = A ++ g :: C := by
  obtain ⟨A, C, a1, a2, a3, a4, a5, a6⟩ := tree_split hs p
  rcases a6 with ⟨b1, w, b2, rfl⟩ | ⟨b1, rfl⟩
  · refine ⟨A, C, a1, a2, a3, a4, ?_, w, b2, rfl⟩
    unfold dropAt
    rw [a5, List.take_left' rfl, List.drop_append, List.drop_eq_nil_of_le (by omega)]
    simp
  · rw [b1] at h; cases h
theorem dropAt_sorted {t : List File} (hs : Sorted t) {p : ByteArray} (h : isAt t p = true) : Sorted (dropAt t (posOf t p)) := by
  obtain ⟨A, C, a1, a2, a3, a4, a5, _⟩ := dropAt_isp hs h
  rw [a5]
  exact sorted_pair a1 a2 a3 a4
theorem dropAt_look {t : List File} (hs : Sorted t) {p : ByteArray} (h : isAt t p = true) (q : ByteArray) : look (dropAt t (posOf t p)) q = if p = q then none else look t q := by
  obtain ⟨A, C, a1, a2, a3, a4, a5, g, b1, b2⟩ := dropAt_isp hs h
  rw [a5, look_app]
  by_cases e : p = q
  · subst e
    rw [if_pos rfl, look_none fun x hx => less_ne (a1 x hx), look_none fun x hx => (less_ne (a2 x hx)).symm]; rfl
  · rw [if_neg e, b2, look_app, look_cons, if_neg (by rw [b1]; exact e)]
theorem dropAt_len {t : List File} (hs : Sorted t) {p : ByteArray} (h : isAt t p = true) : (dropAt t (posOf t p)).length + 1 = t.length := by
  obtain ⟨A, C, a1, a2, a3, a4, a5, g, b1, b2⟩ := dropAt_isp hs h
  rw [a5, b2]; simp; omega
theorem dropAt_mem {t : List File} {k : Nat} {x : File} (h : x ∈ dropAt t k) : x ∈ t := by
  unfold dropAt at h
  rcases List.mem_append.1 h with h | h
  · exact List.mem_of_mem_take h
  · exact List.mem_of_mem_drop h
/-- two trees in which each path reads the same are the same -/
theorem sorted_ext : ∀ {t u : List File}, Sorted t → Sorted u → (∀ p, look t p = look u p) → t = u
  | [], [], _, _, _ => rfl
  | [], y :: s, _, _, h => by have := h y.path; rw [look_nil, look_cons, if_pos rfl] at this; cases this
  | x :: r, [], _, _, h => by have := h x.path; rw [look_nil, look_cons, if_pos rfl] at this; cases this
  | x :: r, y :: s, hs, hu, h => by
    obtain ⟨h1, h2⟩ := List.pairwise_cons.1 hs
    obtain ⟨g1, g2⟩ := List.pairwise_cons.1 hu
    have hx := h x.path
    rw [look_cons, if_pos rfl, look_cons] at hx
    have hy := h y.path
    rw [look_cons y s, if_pos rfl, look_cons] at hy
    have key : x.path = y.path := by
      rcases less_tri x.path y.path with g | g | g
      · rw [if_neg (less_ne g).symm, look_none fun z hz => (less_ne (less_trans g (g1 z hz))).symm] at hx
        cases hx
      · exact g
      · rw [if_neg (less_ne g).symm, look_none fun z hz => (less_ne (less_trans g (h1 z hz))).symm] at hy
        cases hy
    rw [if_pos key.symm] at hx
    have e : x = y := by
      cases x; cases y
      simp only at key hx
      simp [key, Option.some.inj hx]
    subst e
    congr 1
    refine sorted_ext h2 g2 fun p => ?_
    have := h p
    rw [look_cons, look_cons] at this
    by_cases e : x.path = p
    · rw [look_none fun z hz => by rw [← e]; exact (less_ne (h1 z hz)).symm, look_none fun z hz => by rw [← e]; exact (less_ne (g1 z hz)).symm]
    · rw [if_neg e, if_neg e] at this
      exact this

/-! ### what makes a tree -/
theorem treeGo_ok : ∀ (t : List File) (i : Nat) (prev : Option ByteArray), (∀ f ∈ t, fileFault f = 0) → Sorted t → (∀ p f, prev = some p → f ∈ t → less p f.path = true) → treeGo i prev t = (0, 0)
  | [], _, _, _, _, _ => rfl
  | f :: r, i, prev, h1, h2, h3 => by
    obtain ⟨g1, g2⟩ := List.pairwise_cons.1 h2
    have hp : ¬ prev.any (fun p => leqB f.path p) = true := by
      cases prev with
      | none => simp
      | some p =>
        simp only [Option.any_some]
        intro e
        have := leqB_true.1 e
        rw [h3 p f rfl (List.mem_cons_self ..)] at this
        cases this
    rw [treeGo, if_neg (by rw [h1 f (List.mem_cons_self ..)]; simp), if_neg hp]
    exact treeGo_ok r (i + 1) (some f.path) (fun x hx => h1 x (List.mem_cons_of_mem _ hx)) g2 (fun p x hp hx => by cases hp; exact g1 x hx)
theorem treeFault_ok {t : List File} (h0 : t.length ≤ 8) (h1 : ∀ f ∈ t, fileFault f = 0) (h2 : Sorted t) : treeFault t = (0, 0) := by
  unfold treeFault
  rw [if_neg (by omega)]
  exact treeGo_ok t 0 none h1 h2 (by simp)
/-- a tree that may be -/
def Tree (t : List File) : Prop := t.length ≤ 8 ∧ (∀ f ∈ t, fileFault f = 0) ∧ Sorted t
theorem tree_iff {t : List File} : Tree t ↔ (treeFault t).2 = 0 :=
  ⟨fun h => by rw [treeFault_ok h.1 h.2.1 h.2.2], fun h => by obtain ⟨a, b, c, _⟩ := treeFault_zero h; exact ⟨a, b, c⟩⟩
end Go.Proofs.YtgabchhplmncnaaDoor
namespace Go.Proofs.YtgabchhplmncnaaDoor

def isChange (m : Mark) : Bool := !(m.sign == 32)
/-- is mark k within n of one that takes or puts? -/
def inAt (s : List Mark) (n : Int) (k : Nat) : Bool := (List.range s.length).any fun i => (s[i]?.any isChange) && decide ((k : Int) ≤ i + n) && decide ((i : Int) ≤ k + n)
/-- a mark more in the last hunk -/
def pushLast (out : List Hunk) (m : Mark) : List Hunk :=
  match out.getLast? with
  | some h => out.dropLast ++ [{ h with marks := h.marks ++ [m] }]
  | none => out
/-- one step: the hunks so far, whether the mark ahead was in one, how many old and new lines stand ahead -/
def cutStep (out : List Hunk) (was inn : Bool) (before after : Nat) (m : Mark) : List Hunk :=
  if inn then pushLast (if was then out else out ++ [⟨before, after, []⟩]) m else out
def cutTo (s : List Mark) (n : Int) : Nat → List Hunk
  | 0 => []
  | k + 1 => match s[k]? with
    | some m => cutStep (cutTo s n k) (decide (0 < k) && inAt s n (k - 1)) (inAt s n k) (oldN (s.take k)) (newN (s.take k)) m
    | none => cutTo s n k
def cutOf (s : List Mark) (n : Int) : List Hunk := cutTo s n s.length
def cutFault (s : List Mark) (n : Int) : Int :=
  if scriptFault s ≠ 0 then scriptFault s else if n < 0 ∨ 1000 < n then 1 else if 60 < oldN s ∨ 60 < newN s then 3 else 0
end Go.Proofs.YtgabchhplmncnaaDoor
namespace Go.Proofs.YtgabchhplmncnaaDoor

def wholeR (l : List ByteArray) (s : Int) : List Hunk := if l = [] then [] else [⟨0, 0, l.map fun x => ⟨s, x⟩⟩]
/-- the change of a path by what it reads ahead and behind -/
def chg (n : Int) (p : ByteArray) : Option (List ByteArray) → Option (List ByteArray) → List Change
  | none, none => []
  | none, some y => [⟨2, p, wholeR y 43⟩]
  | some x, none => [⟨3, p, wholeR x 45⟩]
  | some x, some y => if cutOf (script x y) n = [] then [] else [⟨1, p, cutOf (script x y) n⟩]
def diffL (n : Int) : List File → List File → List Change
  | [], [] => []
  | x :: a, [] => ⟨3, x.path, wholeR x.lines 45⟩ :: diffL n a []
  | [], y :: b => ⟨2, y.path, wholeR y.lines 43⟩ :: diffL n [] b
  | x :: a, y :: b =>
    if less x.path y.path = true then ⟨3, x.path, wholeR x.lines 45⟩ :: diffL n a (y :: b)
    else if less y.path x.path = true then ⟨2, y.path, wholeR y.lines 43⟩ :: diffL n (x :: a) b
    else chg n x.path (some x.lines) (some y.lines) ++ diffL n a b
termination_by a b => a.length + b.length
def mergeT : List File → List File → List File
  | [], [] => []
  | x :: a, [] => x :: mergeT a []
  | [], y :: b => y :: mergeT [] b
  | x :: a, y :: b =>
    if less x.path y.path = true then x :: mergeT a (y :: b)
    else if less y.path x.path = true then y :: mergeT (x :: a) b
    else y :: mergeT a b
termination_by a b => a.length + b.length
def allOf (a b : List File) : List File := b.foldl putAt a
def refDiff (a b : List File) (n : Int) : List Change := (allOf a b).flatMap fun f => chg n f.path (look a f.path) (look b f.path)

theorem flat_congr {α β : Type} {g h : α → List β} : ∀ {l : List α}, (∀ x ∈ l, g x = h x) → l.flatMap g = l.flatMap h
  | [], _ => rfl
  | x :: r, e => by rw [List.flatMap_cons, List.flatMap_cons, e x (List.mem_cons_self ..), flat_congr fun y hy => e y (List.mem_cons_of_mem _ hy)]
theorem less_same {p q : ByteArray} (h : ¬ less p q = true) (g : ¬ less q p = true) : p = q := by
  rcases less_tri p q with e | e | e
  · exact absurd e h
  · exact e
  · exact absurd e g
/-- all of two lists lie behind a path -/
def Behind (p : ByteArray) (a : List File) : Prop := ∀ x ∈ a, less p x.path = true
theorem Behind.trans {p q : ByteArray} {a : List File} (h : Behind q a) (g : less p q = true) : Behind p a := fun x hx => less_trans g (h x hx)
theorem Behind.cons {p : ByteArray} {x : File} {a : List File} (h : Behind p a) (g : less p x.path = true) : Behind p (x :: a) := fun y hy => by
  rcases List.mem_cons.1 hy with rfl | hy
  · exact g
  · exact h y hy
theorem Behind.none {p : ByteArray} {a : List File} (h : Behind p a) : look a p = none := look_none fun x hx => (less_ne (h x hx)).symm
theorem sorted_cons {x : File} {a : List File} (h : Sorted (x :: a)) : Behind x.path a ∧ Sorted a := List.pairwise_cons.1 h
theorem merge_behind (p : ByteArray) : ∀ (a b : List File), Behind p a → Behind p b → Behind p (mergeT a b)
  | [], [], _, _ => by rw [mergeT]; exact fun x hx => by cases hx
  | x :: a, [], h, g => by
    rw [mergeT]
    exact Behind.cons (merge_behind p a [] (fun y hy => h y (List.mem_cons_of_mem _ hy)) g) (h x (List.mem_cons_self ..))
  | [], y :: b, h, g => by
    rw [mergeT]
    exact Behind.cons (merge_behind p [] b h (fun z hz => g z (List.mem_cons_of_mem _ hz))) (g y (List.mem_cons_self ..))
  | x :: a, y :: b, h, g => by
    have h1 : Behind p a := fun y hy => h y (List.mem_cons_of_mem _ hy)
    have g1 : Behind p b := fun y hy => g y (List.mem_cons_of_mem _ hy)
    rw [mergeT]
    split
    · exact Behind.cons (merge_behind p a (y :: b) h1 g) (h x (List.mem_cons_self ..))
    · split
      · exact Behind.cons (merge_behind p (x :: a) b h g1) (g y (List.mem_cons_self ..))
      · exact Behind.cons (merge_behind p a b h1 g1) (g y (List.mem_cons_self ..))
termination_by a b => a.length + b.length
theorem merge_sorted : ∀ (a b : List File), Sorted a → Sorted b → Sorted (mergeT a b)
  | [], [], _, _ => by rw [mergeT]; exact List.Pairwise.nil
  | x :: a, [], h, g => by
    rw [mergeT]
    exact List.Pairwise.cons (merge_behind x.path a [] (sorted_cons h).1 (fun y hy => by cases hy)) (merge_sorted a [] (sorted_cons h).2 g)
  | [], y :: b, h, g => by
    rw [mergeT]
    exact List.Pairwise.cons (merge_behind y.path [] b (fun y hy => by cases hy) (sorted_cons g).1) (merge_sorted [] b h (sorted_cons g).2)
  | x :: a, y :: b, h, g => by
    obtain ⟨h1, h2⟩ := sorted_cons h
    obtain ⟨g1, g2⟩ := sorted_cons g
    rw [mergeT]
    split
    · rename_i l1
      exact List.Pairwise.cons (merge_behind x.path a (y :: b) h1 ((g1.trans l1).cons l1)) (merge_sorted a (y :: b) h2 g)
    · rename_i l1
      split
      · rename_i l2
        exact List.Pairwise.cons (merge_behind y.path (x :: a) b ((h1.trans l2).cons l2) g1) (merge_sorted (x :: a) b h g2)
      · rename_i l2
        have e := less_same l1 l2
        exact List.Pairwise.cons (merge_behind y.path a b (by rw [← e]; exact h1) g1) (merge_sorted a b h2 g2)
termination_by a b => a.length + b.length
theorem merge_look (p : ByteArray) : ∀ (a b : List File), Sorted a → Sorted b → look (mergeT a b) p = (look b p).or (look a p)
  | [], [], _, _ => by rw [mergeT]; rfl
  | x :: a, [], h, g => by
    rw [mergeT, look_cons, look_cons, merge_look p a [] (sorted_cons h).2 g]
    rw [look_nil]; rfl
  | [], y :: b, h, g => by
    rw [mergeT, look_cons, look_cons, merge_look p [] b h (sorted_cons g).2]
    by_cases e : y.path = p
    · rw [if_pos e, if_pos e]; rfl
    · rw [if_neg e, if_neg e]
  | x :: a, y :: b, h, g => by
    obtain ⟨h1, h2⟩ := sorted_cons h
    obtain ⟨g1, g2⟩ := sorted_cons g
    rw [mergeT]
    split
    · rename_i l1
      rw [look_cons, merge_look p a (y :: b) h2 g, look_cons x a]
      by_cases e : x.path = p
      · rw [if_pos e, if_pos e, Behind.none (p := p) (by rw [← e]; exact (g1.trans l1).cons l1)]; rfl
      · rw [if_neg e, if_neg e]
    · rename_i l1
      split
      · rename_i l2
        rw [look_cons, merge_look p (x :: a) b h g2, look_cons y b]
        by_cases e : y.path = p
        · rw [if_pos e, if_pos e]; rfl
        · rw [if_neg e, if_neg e]
      · rename_i l2
        have e := less_same l1 l2
        rw [look_cons, merge_look p a b h2 g2, look_cons y b, look_cons x a]
        by_cases q : y.path = p
        · rw [if_pos q, if_pos q]; rfl
        · rw [if_neg q, if_neg q, if_neg (by rw [e]; exact q)]
termination_by a b => a.length + b.length
theorem all_sorted : ∀ (b a : List File), Sorted a → Sorted (allOf a b)
  | [], _, h => h
  | x :: r, a, h => all_sorted r (putAt a x) (putAt_sorted h x)
theorem all_look (p : ByteArray) : ∀ (b a : List File), Sorted a → Sorted b → look (allOf a b) p = (look b p).or (look a p)
  | [], a, _, _ => rfl
  | x :: r, a, h, g => by
    obtain ⟨g1, g2⟩ := sorted_cons g
    have := all_look p r (putAt a x) (putAt_sorted h x) g2
    rw [show allOf a (x :: r) = allOf (putAt a x) r from rfl, this, putAt_look h, look_cons]
    by_cases e : x.path = p
    · rw [if_pos e, if_pos e, Behind.none (p := p) (by rw [← e]; exact g1)]; rfl
    · rw [if_neg e, if_neg e]
theorem all_merge {a b : List File} (h : Sorted a) (g : Sorted b) : allOf a b = mergeT a b :=
  sorted_ext (all_sorted b a h) (merge_sorted a b h g) fun p => by rw [all_look p b a h g, merge_look p a b h g]
theorem merge_diff (n : Int) : ∀ (a b : List File), Sorted a → Sorted b → ((mergeT a b).flatMap fun f => chg n f.path (look a f.path) (look b f.path)) = diffL n a b
  | [], [], _, _ => by rw [mergeT, diffL]; rfl
  | x :: a, [], h, g => by
    obtain ⟨h1, h2⟩ := sorted_cons h
    rw [mergeT, diffL, List.flatMap_cons, ← merge_diff n a [] h2 g, look_cons, if_pos rfl, look_nil]
    refine congrArg (fun l => _ :: l) (flat_congr fun f hf => ?_)
    rw [look_cons, if_neg (less_ne (merge_behind x.path a [] h1 (fun y hy => by cases hy) f hf))]
  | [], y :: b, h, g => by
    obtain ⟨g1, g2⟩ := sorted_cons g
    rw [mergeT, diffL, List.flatMap_cons, ← merge_diff n [] b h g2, look_cons, if_pos rfl, look_nil]
    refine congrArg (fun l => _ :: l) (flat_congr fun f hf => ?_)
    rw [look_cons, if_neg (less_ne (merge_behind y.path [] b (fun y hy => by cases hy) g1 f hf))]
  | x :: a, y :: b, h, g => by
    obtain ⟨h1, h2⟩ := sorted_cons h
    obtain ⟨g1, g2⟩ := sorted_cons g
    rw [mergeT, diffL]
    by_cases l1 : less x.path y.path = true
    · have q := (g1.trans l1).cons l1
      rw [if_pos l1, if_pos l1, List.flatMap_cons, ← merge_diff n a (y :: b) h2 g, q.none, look_cons, if_pos rfl]
      refine congrArg (fun l => _ :: l) (flat_congr fun f hf => ?_)
      rw [look_cons x a, if_neg (less_ne (merge_behind x.path a (y :: b) h1 q f hf))]
    · rw [if_neg l1, if_neg l1]
      by_cases l2 : less y.path x.path = true
      · have q := (h1.trans l2).cons l2
        rw [if_pos l2, if_pos l2, List.flatMap_cons, ← merge_diff n (x :: a) b h g2, q.none, look_cons, if_pos rfl]
        refine congrArg (fun l => _ :: l) (flat_congr fun f hf => ?_)
        rw [look_cons y b, if_neg (less_ne (merge_behind y.path (x :: a) b q g1 f hf))]
      · have e := less_same l1 l2
        rw [if_neg l2, if_neg l2, List.flatMap_cons, ← merge_diff n a b h2 g2, look_cons, if_pos e, look_cons, if_pos rfl, e]
        refine congrArg (fun l => _ ++ l) (flat_congr fun f hf => ?_)
        have q := less_ne (merge_behind y.path a b (by rw [← e]; exact h1) g1 f hf)
        rw [look_cons y b, look_cons x a, if_neg (by rw [e]; exact q), if_neg q]
termination_by a b => a.length + b.length
theorem diff_same {a b : List File} (n : Int) (h : Sorted a) (g : Sorted b) : refDiff a b n = diffL n a b := by
  unfold refDiff
  rw [all_merge h g, merge_diff n a b h g]
end Go.Proofs.YtgabchhplmncnaaDoor
