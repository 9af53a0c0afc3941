/-
  PARTS: HUNKS AS TEXTS, in plain Lean (chapter 5): numbers, spans, heads; lines written and read.; BYTES AS LETTERS, in plain Lean: what is written is read; 57 bytes more ahead are a line more ahead.; MAILS AS TEXTS, in plain Lean (chapter 12): one mail.; THE WALKS of mail.word and of the document's word; a mail as cells.; SERIES, in plain Lean (chapter 13): a part of a series, its subject and its name.; SERIES, in plain Lean (chapter 13): the parts of a series, in whatever order they come.; HUNKS AS TEXTS, in plain Lean (chapter 5): the reader, line by line; what is printed is read, what is read is printed so.; HUNKS AS TEXTS, in plain Lean (chapter 5): whole texts. What is printed is read; what is read is printed so; cut off within the last line it is none.; PATCHES AS TEXTS, in plain Lean (chapter 8): lines written and read.; TREES, in plain Lean (chapter 2): files by path, in order.
-/
import Derived.Test.YtjiaidchcldocaaGreatDoorPg1
import Derived.Lib.ItoaNum
import Derived.Lib.AtoiTie
import Derived.Lib.Bytealg
import GoSem.Op.String
set_option linter.unusedVariables false
set_option linter.unusedSimpArgs false
namespace Go.Proofs.YtjiaidchcldocaaGreatDoor

/-! ### numbers -/
def dec3 (n : Nat) : List UInt8 :=
  if n < 10 then [UInt8.ofNat (48 + n)] else if n < 100 then [UInt8.ofNat (48 + n / 10), UInt8.ofNat (48 + n % 10)] else [UInt8.ofNat (48 + n / 10 / 10), UInt8.ofNat (48 + n / 10 % 10), UInt8.ofNat (48 + n % 10)]
theorem digits_three {n : Nat} (h : n < 1000) : Lib.decDigits n = dec3 n := by
  unfold dec3
  by_cases h1 : n < 10
  · rw [if_pos h1, Lib.decDigits_one h1]
  · rw [if_neg h1]
    by_cases h2 : n < 100
    · rw [if_pos h2, Lib.decDigits_two h1 h2]
    · rw [if_neg h2, Lib.decDigits, dif_neg h1, Lib.decDigits_two (by omega) (by omega)]
      rfl
theorem dec3_nat : ∀ n, n < 1000 → Lib.decNat (dec3 n) = some n := by decide +kernel
theorem dec3_chars : ∀ n, n < 1000 → (dec3 n).all (fun c => decide (48 ≤ c.toNat) && decide (c.toNat ≤ 57)) = true := by decide +kernel
theorem dec3_len : ∀ n, n < 1000 → (dec3 n).length ≤ 3 := by decide +kernel
/-- a number of at most three digits, written as it is -/
def numOf (s : List UInt8) : Option Nat := if s.length ≤ 3 then match Lib.decNat s with
  | some n => if Lib.decDigits n = s then some n else none
  | none => none
  else none
theorem num_dec {n : Nat} (h : n < 1000) : numOf (Lib.decDigits n) = some n := by
  unfold numOf
  rw [digits_three h, if_pos (dec3_len n h), dec3_nat n h]
  show (if Lib.decDigits n = dec3 n then some n else none) = _
  rw [if_pos (digits_three h)]
theorem num_some {s : List UInt8} {n : Nat} (h : numOf s = some n) : n < 1000 ∧ Lib.decDigits n = s := by
  unfold numOf at h
  by_cases hl : s.length ≤ 3
  · rw [if_pos hl] at h
    cases hd : Lib.decNat s with
    | none => rw [hd] at h; cases h
    | some k =>
      rw [hd] at h
      simp only at h
      by_cases he : Lib.decDigits k = s
      · rw [if_pos he] at h
        injection h with h
        subst h
        refine ⟨?_, he⟩
        have h1 := Lib.decFrom_lt _ _ _ (Lib.decNat_some hd).2
        have : (10 : Nat) ^ s.length ≤ 10 ^ 3 := Nat.pow_le_pow_right (by decide) hl
        omega
      · rw [if_neg he] at h; cases h
  · rw [if_neg hl] at h; cases h
theorem dec_digit {n : Nat} (h : n < 1000) {c : UInt8} (hc : c ∈ Lib.decDigits n) : 48 ≤ c.toNat ∧ c.toNat ≤ 57 := by
  rw [digits_three h] at hc
  have := List.all_eq_true.1 (dec3_chars n h) c hc
  simpa using this

/-! ### cuts -/
def cutSub (t : List UInt8) : List UInt8 → Option (List UInt8 × List UInt8)
  | [] => if t = [] then some ([], []) else none
  | c :: r => if t.isPrefixOf (c :: r) then some ([], (c :: r).drop t.length) else (cutSub t r).map fun p => (c :: p.1, p.2)
theorem cut_some {t : List UInt8} : ∀ {s a b : List UInt8}, cutSub t s = some (a, b) → s = a ++ t ++ b
  | [], a, b, h => by
    rw [cutSub] at h
    by_cases e : t = []
    · rw [if_pos e] at h
      injection h with h
      injection h with h1 h2
      rw [← h1, ← h2, e]; rfl
    · rw [if_neg e] at h; cases h
  | c :: r, a, b, h => by
    rw [cutSub] at h
    by_cases e : t.isPrefixOf (c :: r) = true
    · rw [if_pos e] at h
      injection h with h
      injection h with h1 h2
      rw [← h1, ← h2, List.nil_append]
      obtain ⟨q, hq⟩ := List.isPrefixOf_iff_prefix.1 e
      rw [← hq, List.drop_left]
    · rw [if_neg e] at h
      cases hr : cutSub t r with
      | none => rw [hr] at h; cases h
      | some p =>
        rw [hr] at h
        injection h with h
        injection h with h1 h2
        rw [← h1, ← h2, List.cons_append, List.cons_append, ← cut_some (a := p.1) (b := p.2) hr]
theorem cut_at {x : UInt8} {t : List UInt8} (b : List UInt8) : ∀ {a : List UInt8}, (∀ c ∈ a, c ≠ x) → cutSub (x :: t) (a ++ (x :: t) ++ b) = some (a, b)
  | [], _ => by
    rw [List.nil_append, List.cons_append, cutSub, if_pos (by rw [List.isPrefixOf_iff_prefix]; exact ⟨b, rfl⟩)]
    show some ([], (x :: t ++ b).drop (x :: t).length) = _
    rw [List.drop_left]
  | c :: a, h => by
    rw [List.cons_append, List.cons_append, cutSub, if_neg, cut_at b fun d hd => h d (List.mem_cons_of_mem _ hd)]
    · rfl
    · rw [List.isPrefixOf_iff_prefix]
      rintro ⟨q, hq⟩
      injection hq with h1 _
      exact h c (List.mem_cons_self ..) h1.symm
def dropPre (p s : List UInt8) : Option (List UInt8) := if p.isPrefixOf s then some (s.drop p.length) else none
def dropSuf (q s : List UInt8) : Option (List UInt8) := if q.isSuffixOf s then some (s.take (s.length - q.length)) else none
theorem pre_app (p r : List UInt8) : dropPre p (p ++ r) = some r := by
  unfold dropPre
  rw [if_pos (List.isPrefixOf_iff_prefix.2 ⟨r, rfl⟩), List.drop_left]
theorem pre_some {p s r : List UInt8} (h : dropPre p s = some r) : s = p ++ r := by
  unfold dropPre at h
  by_cases e : p.isPrefixOf s = true
  · rw [if_pos e] at h
    injection h with h
    obtain ⟨q, hq⟩ := List.isPrefixOf_iff_prefix.1 e
    rw [← h, ← hq, List.drop_left]
  · rw [if_neg e] at h; cases h
theorem suf_app (q r : List UInt8) : dropSuf q (r ++ q) = some r := by
  unfold dropSuf
  rw [if_pos (List.isSuffixOf_iff_suffix.2 ⟨r, rfl⟩), List.length_append, Nat.add_sub_cancel, List.take_left]
/-! ### spans, heads -/
def spanL (ahead : Int) (many : Nat) : List UInt8 := Lib.itoa (if 0 < many then ahead + 1 else ahead) ++ [44] ++ Lib.itoa many
def spanOf (s : List UInt8) : Option (Int × Nat) := match cutSub [44] s with
  | none => none
  | some (a, b) => match numOf a with
    | none => none
    | some x => match numOf b with
      | none => none
      | some y => if 0 < y then (if x = 0 then none else some ((x : Int) - 1, y)) else some ((x : Int), y)
theorem itoa_nat (n : Nat) : Lib.itoa n = Lib.decDigits n := by
  unfold Lib.itoa
  rw [if_neg (by omega)]; rfl
theorem span_back {a : Int} {m : Nat} (h0 : 0 ≤ a) (h1 : a < 999) (hm : m < 1000) : spanOf (spanL a m) = some (a, m) := by
  obtain ⟨x, hx, hx3⟩ : ∃ x : Nat, (if 0 < m then a + 1 else a) = (x : Int) ∧ x < 1000 := ⟨(if 0 < m then a + 1 else a).toNat, by split <;> omega, by split <;> omega⟩
  unfold spanOf spanL
  rw [hx, itoa_nat, itoa_nat, cut_at (x := 44) (t := []) _ (fun c hc e => by have := (dec_digit hx3 hc).2; have := (dec_digit hx3 hc).1; rw [e] at this; exact absurd this (by decide))]
  simp only
  rw [num_dec hx3, num_dec hm]
  simp only
  by_cases h : 0 < m
  · rw [if_pos h] at hx ⊢
    rw [if_neg (by omega)]
    congr 2; omega
  · rw [if_neg h] at hx ⊢
    rw [hx]
def atAt : List UInt8 := [64, 64, 32, 45]
def endAt : List UInt8 := [32, 64, 64]
def headL (a : Int) (x : Nat) (b : Int) (y : Nat) : List UInt8 := atAt ++ (spanL a x ++ [32, 43] ++ spanL b y ++ endAt)
def headOf (s : List UInt8) : Option (Int × Nat × Int × Nat) := match dropPre atAt s with
  | none => none
  | some r => match dropSuf endAt r with
    | none => none
    | some m => match cutSub [32, 43] m with
      | none => none
      | some (u, v) => match spanOf u with
        | none => none
        | some (a, x) => match spanOf v with
          | none => none
          | some (b, y) => some (a, x, b, y)
theorem span_chars {a : Int} {m : Nat} (h0 : 0 ≤ a) (h1 : a < 999) (hm : m < 1000) {c : UInt8} (hc : c ∈ spanL a m) : c.toNat = 44 ∨ (48 ≤ c.toNat ∧ c.toNat ≤ 57) := by
  obtain ⟨x, hx, hx3⟩ : ∃ x : Nat, (if 0 < m then a + 1 else a) = (x : Int) ∧ x < 1000 := ⟨(if 0 < m then a + 1 else a).toNat, by split <;> omega, by split <;> omega⟩
  unfold spanL at hc
  rw [hx, itoa_nat, itoa_nat] at hc
  rcases List.mem_append.1 hc with hc | hc
  · rcases List.mem_append.1 hc with hc | hc
    · exact .inr (dec_digit hx3 hc)
    · rw [List.mem_singleton.1 hc]; exact .inl rfl
  · exact .inr (dec_digit hm hc)
theorem head_back {a b : Int} {x y : Nat} (a0 : 0 ≤ a) (a1 : a < 999) (hx : x < 1000) (b0 : 0 ≤ b) (b1 : b < 999) (hy : y < 1000) : headOf (headL a x b y) = some (a, x, b, y) := by
  unfold headOf headL
  rw [pre_app]
  simp only
  rw [suf_app]
  simp only
  rw [cut_at (x := 32) (t := [43]) _ (fun c hc e => by have := span_chars a0 a1 hx hc; rw [e] at this; exact absurd this (by decide))]
  simp only
  rw [span_back a0 a1 hx, span_back b0 b1 hy]
end Go.Proofs.YtjiaidchcldocaaGreatDoor
namespace Go.Proofs.YtjiaidchcldocaaGreatDoor

/-! ### lines -/
end Go.Proofs.YtjiaidchcldocaaGreatDoor
namespace Go.Proofs.YtjiaidchcldocaaGreatDoor

def wordB (s : List UInt8) : Bool := !(s == []) && decide (s.length ≤ 40) && s.all fun c => decide (32 ≤ c.toNat) && decide (c.toNat ≤ 126)
def mailFault (m : Mail) : Int :=
  if wordB m.sender.data.toList = false ∨ wordB m.subject.data.toList = false ∨ wordB m.ident.data.toList = false ∨ 60 ∈ m.ident.data.toList ∨ 62 ∈ m.ident.data.toList then 5
  else if 40000 < m.body.length then 3 else 0
end Go.Proofs.YtjiaidchcldocaaGreatDoor
namespace Go.Proofs.YtjiaidchcldocaaGreatDoor
open Go.RowKit

theorem elems_mail {w : World} {O : Nat → Prop} {a : Option Addr} {l : List Mail} (h : Elems w O a l) {i : Nat} {x : Mail} (hx : l[i]? = some x) :
    ∃ b off v, a = some ⟨b, off, none⟩ ∧ ¬ O b ∧ b < w.heap.size ∧ w.cell? ⟨b, off + i * 4, none⟩ = some (.string x.sender) ∧ w.cell? ⟨b, off + i * 4 + 1, none⟩ = some (.string x.subject) ∧ w.cell? ⟨b, off + i * 4 + 2, none⟩ = some (.string x.ident) ∧ w.cell? ⟨b, off + i * 4 + 3, none⟩ = some v ∧ x.sender.size ≤ maxLen ∧ x.subject.size ≤ maxLen ∧ x.ident.size ≤ maxLen ∧ Rdv w O v x.body := by
  obtain ⟨b, off, es, ha, hb, hcs, v, rfl, s1, s2, s3, hv⟩ := h i x hx
  refine ⟨b, off, v, ha, hb, hcs.lt (by simp), ?_, ?_, ?_, ?_, s1, s2, s3, hv⟩
  · simpa [Dat.n] using hcs 0 _ rfl
  · simpa [Dat.n] using hcs 1 _ rfl
  · simpa [Dat.n] using hcs 2 _ rfl
  · simpa [Dat.n] using hcs 3 _ rfl
def okChar (c : UInt8) : Bool := decide (32 ≤ c.toNat) && decide (c.toNat ≤ 126)
theorem wordB_eq (s : List UInt8) : wordB s = (!(s == []) && decide (s.length ≤ 40) && s.all okChar) := rfl

set_option maxHeartbeats 1000000 in
set_option maxRecDepth 100000 in
theorem mail_word_any (s : ByteArray) (w : World) (hs : s.size ≤ maxLen) :
    Calls Tryz.prog 148 #[.string s] w fun e w' => e = .returned (.bool (wordB s.data.toList)) ∧ w = w' := by
  unfold maxLen at hs
  by_cases h0 : s.size = 0
  · have e0 : s.data.toList = [] := List.eq_nil_of_length_eq_zero (by rw [← Lib.size_eq]; exact h0)
    have HW : Hid (wordB s.data.toList = false) := by rw [Hid, e0]; rfl
    have te : s.toList.isEmpty = true := by rw [Lib.toList_data, e0]; rfl
    clear e0
    have tl : decide ((s.size : Int) < 1) = true := decide_eq_true (by omega)
    go_enter Tryz.func148, Tryz.ntmps148
    go_wp2_with fail
    go_ret
    exact ⟨by rw [HW.out]; rfl, rfl⟩
  · by_cases h40 : 40 < s.size
    · have HW : Hid (wordB s.data.toList = false) := by
        rw [Hid, wordB_eq, decide_eq_false (by rw [← Lib.size_eq]; omega : ¬ s.data.toList.length ≤ 40)]; simp
      have te : s.toList.isEmpty = false := by
        rw [Lib.toList_data]
        cases e : s.data.toList.isEmpty with
        | false => rfl
        | true => exact absurd (by rw [Lib.size_eq, List.isEmpty_iff.1 e]; rfl) h0
      have tl : decide ((s.size : Int) < 1) = false := decide_eq_false (by omega)
      have t4 : decide ((40 : Int) < (s.size : Int)) = true := decide_eq_true (by omega)
      go_enter Tryz.func148, Tryz.ntmps148
      go_wp2_with fail
      go_ret
      exact ⟨by rw [HW.out]; rfl, rfl⟩
    · have HW : Hid (wordB s.data.toList = s.data.toList.all okChar) := by
        rw [Hid, wordB_eq, decide_eq_true (by rw [← Lib.size_eq]; omega : s.data.toList.length ≤ 40)]
        have : (s.data.toList == []) = false := by
          simp only [beq_eq_false_iff_ne, ne_eq]
          intro e
          exact h0 (by rw [Lib.size_eq, e]; rfl)
        rw [this]; simp
      have te : s.toList.isEmpty = false := by
        rw [Lib.toList_data]
        cases e : s.data.toList.isEmpty with
        | false => rfl
        | true => exact absurd (by rw [Lib.size_eq, List.isEmpty_iff.1 e]; rfl) h0
      have tl : decide ((s.size : Int) < 1) = false := decide_eq_false (by omega)
      have t4 : decide ((40 : Int) < (s.size : Int)) = false := decide_eq_false (by omega)
      go_enter Tryz.func148, Tryz.ntmps148
      go_wp2_with fail
      go_loop [13] (fun i => ∃ k : Nat, k ≤ s.size ∧ i = .int .i64 k ∧ Hid ((s.data.toList.drop k).all okChar = s.data.toList.all okChar)) (fun i => s.size - (intOf i).toNat)
      case atStart => exact ⟨0, Nat.zero_le _, rfl, rfl⟩
      case round =>
        obtain ⟨k, hk, rfl, hf⟩ := hrel
        by_cases hlt : k < s.size
        · have hd : Hid (s.data.toList.drop k = s[k] :: s.data.toList.drop (k + 1)) := by
            rw [Hid]
            exact drop_eq (by rw [Array.getElem?_toList, Array.getElem?_eq_getElem hlt]; rfl)
          obtain ⟨c, hc⟩ : ∃ c, s[k] = c := ⟨_, rfl⟩
          rw [hc] at hd
          by_cases b1 : c.toNat < 32
          · have HF : Hid (s.data.toList.all okChar = false) := by
              rw [Hid, ← hf.out, hd.out, List.all_cons, okChar, decide_eq_false (by omega : ¬ 32 ≤ c.toNat)]; rfl
            have u1 : decide ((c.toNat : Int) < 32) = true := decide_eq_true (by omega)
            clear hf hd b1
            go_wp2_with fail
            go_ret
            exact ⟨by rw [HW.out, HF.out]; rfl, rfl⟩
          · by_cases b2 : 126 < c.toNat
            · have HF : Hid (s.data.toList.all okChar = false) := by
                rw [Hid, ← hf.out, hd.out, List.all_cons, okChar, decide_eq_false (by omega : ¬ c.toNat ≤ 126), Bool.and_false]; rfl
              have u1 : decide ((c.toNat : Int) < 32) = false := decide_eq_false (by omega)
              have u2 : decide ((126 : Int) < (c.toNat : Int)) = true := decide_eq_true (by omega)
              clear hf hd b1 b2
              go_wp2_with fail
              go_ret
              exact ⟨by rw [HW.out, HF.out]; rfl, rfl⟩
            · have HF : Hid ((s.data.toList.drop (k + 1)).all okChar = s.data.toList.all okChar) := by
                rw [Hid, ← hf.out, hd.out, List.all_cons, okChar, decide_eq_true (by omega : 32 ≤ c.toNat), decide_eq_true (by omega : c.toNat ≤ 126)]; rfl
              have u1 : decide ((c.toNat : Int) < 32) = false := decide_eq_false (by omega)
              have u2 : decide ((126 : Int) < (c.toNat : Int)) = false := decide_eq_false (by omega)
              clear hf hd b1 b2
              go_wp2_with fail
              go_round
              case rel => exact ⟨k + 1, by omega, by go_num, HF.out⟩
              case measure => simp [intOf]; omega
        · have HF : Hid (s.data.toList.all okChar = true) := by
            rw [Hid, ← hf.out, List.drop_of_length_le (by rw [← Lib.size_eq]; omega)]; rfl
          go_wp2_with fail
          go_ret
          exact ⟨by rw [HW.out, HF.out]; rfl, rfl⟩
end Go.Proofs.YtjiaidchcldocaaGreatDoor
namespace Go.Proofs.YtjiaidchcldocaaGreatDoor

def patW : List UInt8 := [91, 80, 65, 84, 67, 72, 32]
def handW : List UInt8 := [104, 97, 110, 100, 115, 116, 105, 116, 99, 104]
def titledB (s : List UInt8) : Bool := !(s == []) && decide (s.length ≤ 20) && s.all fun c => decide (32 ≤ c.toNat) && decide (c.toNat ≤ 126)
def subjL (a b : Nat) (t : List UInt8) : List UInt8 := patW ++ (Lib.decDigits a ++ [47] ++ (Lib.decDigits b ++ [93, 32] ++ t))
def idL (a b : Nat) : List UInt8 := Lib.decDigits a ++ [46] ++ Lib.decDigits b
/-- title, place, how many -/
def mpartOf (m : Mail) : Option (List UInt8 × Nat × Nat) := match dropPre patW m.subject.data.toList with
  | none => none
  | some s => match cutSub [47] s with
    | none => none
    | some (a, s) => match cutSub [93, 32] s with
      | none => none
      | some (b, t) => match numOf a with
        | none => none
        | some x => match numOf b with
          | none => none
          | some y => if x ≤ y ∧ y ≤ 8 ∧ titledB t = true ∧ m.sender.data.toList = handW ∧ m.ident.data.toList = idL x y ∧ ¬ (x = 0 ∧ m.body ≠ []) then some (t, x, y) else none
def partMail (t : List UInt8) (a b : Nat) (body : List UInt8) : Mail := ⟨toB handW, toB (subjL a b t), toB (idL a b), body⟩
theorem part_back {t body : List UInt8} {a b : Nat} (hab : a ≤ b) (hb : b ≤ 8) (ht : titledB t = true) (h0 : a = 0 → body = []) : mpartOf (partMail t a b body) = some (t, a, b) := by
  have dig : ∀ {n : Nat} (x : UInt8), n < 1000 → (x.toNat < 48 ∨ 57 < x.toNat) → ∀ c ∈ Lib.decDigits n, c ≠ x := fun x hn hx c hc e => by
    have := dec_digit hn hc
    rw [e] at this; omega
  unfold mpartOf partMail
  simp only [toB_data]
  unfold subjL
  rw [pre_app]
  simp only
  rw [cut_at (x := 47) (t := []) _ (dig 47 (by omega) (by decide))]
  simp only
  rw [cut_at (x := 93) (t := [32]) _ (dig 93 (by omega) (by decide))]
  simp only
  rw [num_dec (by omega)]
  simp only
  rw [num_dec (by omega)]
  simp only
  rw [if_pos ⟨hab, hb, ht, trivial, trivial, fun ⟨q, r⟩ => r (h0 q)⟩]
theorem part_some {m : Mail} {t : List UInt8} {a b : Nat} (h : mpartOf m = some (t, a, b)) : a ≤ b ∧ b ≤ 8 ∧ titledB t = true ∧ (a = 0 → m.body = []) ∧ m = partMail t a b m.body := by
  unfold mpartOf at h
  cases h1 : dropPre patW m.subject.data.toList with
  | none => rw [h1] at h; cases h
  | some s =>
    rw [h1] at h
    simp only at h
    cases h2 : cutSub [47] s with
    | none => rw [h2] at h; cases h
    | some p =>
      obtain ⟨u, s2⟩ := p
      rw [h2] at h
      simp only at h
      cases h3 : cutSub [93, 32] s2 with
      | none => rw [h3] at h; cases h
      | some p =>
        obtain ⟨v, t'⟩ := p
        rw [h3] at h
        simp only at h
        cases h4 : numOf u with
        | none => rw [h4] at h; cases h
        | some x =>
          rw [h4] at h
          simp only at h
          cases h5 : numOf v with
          | none => rw [h5] at h; cases h
          | some y =>
            rw [h5] at h
            simp only at h
            split at h
            · rename_i q
              injection h with h
              injection h with e1 h
              injection h with e2 e3
              subst e1; subst e2; subst e3
              obtain ⟨q1, q2, q3, q4, q5, q6⟩ := q
              refine ⟨q1, q2, q3, fun z => ?_, ?_⟩
              · by_cases w : m.body = []
                · exact w
                · exact absurd ⟨z, w⟩ q6
              · have es : m.subject.data.toList = subjL x y t' := by
                  unfold subjL
                  rw [pre_some h1, cut_some h2, cut_some h3, (num_some h4).2, (num_some h5).2]
                obtain ⟨ms, mu, mi, mb⟩ := m
                simp only at es q4 q5
                unfold partMail
                rw [← es, ← q4, ← q5, toB_of, toB_of, toB_of]
            · cases h
end Go.Proofs.YtjiaidchcldocaaGreatDoor
namespace Go.Proofs.YtjiaidchcldocaaGreatDoor

structure Piece where
  title : List UInt8
  at' : Nat
  many : Nat
  patch : List Change
  deriving DecidableEq
def getP (ps : List Piece) (k : Nat) : List Change := ((ps.find? fun x => x.at' == k).map (·.patch)).getD []
/-- the title, the patches, the fault -/
def openPs : List Piece → List UInt8 × List (List Change) × Int
  | [] => ([], [], 4)
  | x :: r => if (x :: r).all (fun y => y.title == x.title && y.many == x.many) = false then ([], [], 2)
    else if ¬ ((x :: r).map (·.at')).Nodup then ([], [], 6)
    else if (x :: r).length ≤ x.many then ([], [], 4)
    else (x.title, (List.range x.many).map fun i => getP (x :: r) (i + 1), 0)
def canonGo (t : List UInt8) (n : Nat) : Nat → List (List Change) → List Piece
  | _, [] => []
  | k, p :: r => ⟨t, k, n, p⟩ :: canonGo t n (k + 1) r
/-- what is packed: the cover, then each patch -/
def canonP (t : List UInt8) (p : List (List Change)) : List Piece := ⟨t, 0, p.length, []⟩ :: canonGo t p.length 1 p
theorem canon_len (t : List UInt8) (n : Nat) : ∀ (k : Nat) (p : List (List Change)), (canonGo t n k p).length = p.length
  | _, [] => rfl
  | k, _ :: r => by rw [canonGo, List.length_cons, List.length_cons, canon_len t n (k + 1) r]
theorem canon_mem {t : List UInt8} {n : Nat} {x : Piece} : ∀ {k : Nat} {p : List (List Change)}, x ∈ canonGo t n k p → x.title = t ∧ x.many = n ∧ k ≤ x.at' ∧ p[x.at' - k]? = some x.patch
  | _, [], h => by cases h
  | k, q :: r, h => by
    rw [canonGo] at h
    rcases List.mem_cons.1 h with rfl | h
    · exact ⟨rfl, rfl, Nat.le_refl _, by simp⟩
    · obtain ⟨h1, h2, h3, h4⟩ := canon_mem h
      refine ⟨h1, h2, by omega, ?_⟩
      rw [show x.at' - k = (x.at' - (k + 1)) + 1 by omega, List.getElem?_cons_succ]
      exact h4
theorem canon_at {t : List UInt8} {n : Nat} : ∀ {k : Nat} {p : List (List Change)} {i : Nat} {q : List Change}, p[i]? = some q → ⟨t, k + i, n, q⟩ ∈ canonGo t n k p
  | _, [], _, _, h => by simp at h
  | k, c :: r, 0, q, h => by
    rw [List.getElem?_cons_zero] at h
    injection h with h
    subst h
    exact List.mem_cons_self ..
  | k, c :: r, i + 1, q, h => by
    rw [List.getElem?_cons_succ] at h
    have := canon_at (t := t) (n := n) (k := k + 1) h
    rw [show k + 1 + i = k + (i + 1) by omega] at this
    exact List.mem_cons_of_mem _ this
theorem canon_nodup (t : List UInt8) (n : Nat) : ∀ (k : Nat) (p : List (List Change)), ((canonGo t n k p).map (·.at')).Nodup
  | _, [] => List.nodup_nil
  | k, q :: r => by
    rw [canonGo, List.map_cons, List.nodup_cons]
    refine ⟨fun h => ?_, canon_nodup t n (k + 1) r⟩
    obtain ⟨x, hx, e⟩ := List.mem_map.1 h
    have := (canon_mem hx).2.2.1
    simp only at e
    omega
theorem findp_only {x : Piece} : ∀ {ps : List Piece}, (ps.map (·.at')).Nodup → x ∈ ps → ps.find? (fun y => y.at' == x.at') = some x
  | [], _, h => by cases h
  | y :: r, hn, h => by
    rw [List.map_cons, List.nodup_cons] at hn
    rw [List.find?_cons]
    rcases List.mem_cons.1 h with rfl | h
    · simp
    · have : (y.at' == x.at') = false := by
        rw [beq_eq_false_iff_ne]
        intro e
        exact hn.1 (List.mem_map.2 ⟨x, h, e.symm⟩)
      rw [this]
      exact findp_only hn.2 h
/-- in whatever order they come -/
theorem open_perm {t : List UInt8} {p : List (List Change)} {ps : List Piece} (h : ps.Perm (canonP t p)) : openPs ps = (t, p, 0) := by
  have hmem : ∀ x ∈ ps, x.title = t ∧ x.many = p.length := fun x hx => by
    rcases List.mem_cons.1 (h.mem_iff.1 hx) with rfl | hx
    · exact ⟨rfl, rfl⟩
    · exact ⟨(canon_mem hx).1, (canon_mem hx).2.1⟩
  have hn : (ps.map (·.at')).Nodup := by
    rw [(h.map (·.at')).nodup_iff]
    unfold canonP
    rw [List.map_cons, List.nodup_cons]
    refine ⟨fun q => ?_, canon_nodup t _ 1 p⟩
    obtain ⟨x, hx, e⟩ := List.mem_map.1 q
    have := (canon_mem hx).2.2.1
    simp only at e
    omega
  have hl : ps.length = p.length + 1 := by
    rw [h.length_eq]
    unfold canonP
    rw [List.length_cons, canon_len]
  have hg : ∀ i, i < p.length → getP ps (i + 1) = p.getD i [] := fun i hi => by
    have hx : (⟨t, 1 + i, p.length, p.getD i []⟩ : Piece) ∈ ps := by
      rw [h.mem_iff]
      refine List.mem_cons_of_mem _ (canon_at ?_)
      rw [List.getD_eq_getElem?_getD, List.getElem?_eq_getElem hi]; rfl
    have := findp_only hn hx
    unfold getP
    simp only at this
    rw [Nat.add_comm, this]; rfl
  match ps, hmem, hn, hl, hg with
  | [], _, _, hl, _ => simp at hl
  | x :: r, hmem, hn, hl, hg =>
    obtain ⟨ht, hm⟩ := hmem x (List.mem_cons_self ..)
    unfold openPs
    simp only
    rw [if_neg, if_neg (by simpa using hn), if_neg (by omega), ht, hm]
    · congr 2
      apply List.ext_getElem
      · simp
      · intro i h1 h2
        rw [List.getElem_map, List.getElem_range, hg i (by simpa using h2)]
        rw [List.getD_eq_getElem?_getD, List.getElem?_eq_getElem h2]; rfl
    · have : (x :: r).all (fun y => y.title == x.title && y.many == x.many) = true := by
        rw [List.all_eq_true]
        intro y hy
        obtain ⟨a, b⟩ := hmem y hy
        rw [a, b, ht, hm]; simp
      rw [this]; simp
end Go.Proofs.YtjiaidchcldocaaGreatDoor
namespace Go.Proofs.YtjiaidchcldocaaGreatDoor

def signOf (m : Mark) : UInt8 := UInt8.ofNat m.sign.toNat
def markL (m : Mark) : List UInt8 := signOf m :: m.text.data.toList
def hunkL (h : Hunk) : List (List UInt8) := headL h.old (oldN h.marks) h.new (newN h.marks) :: h.marks.map markL
def linesU (l : List Hunk) : List (List UInt8) := l.flatMap hunkL
def textL (l : List (List UInt8)) : List UInt8 := (l.map fun x => x ++ [10]).flatten
def textU (l : List Hunk) : List UInt8 := textL (linesU l)
def addMark : List Hunk → Mark → List Hunk
  | [], _ => []
  | [h], m => [⟨h.old, h.new, h.marks ++ [m]⟩]
  | h :: k :: r, m => h :: addMark (k :: r) m
/-- a line is read: what is there then, how many marks are needed still -/
def readLine (hs : List Hunk) (o n : Nat) (s : List UInt8) : Option (List Hunk × Nat × Nat) :=
  if 0 < o ∨ 0 < n then match s with
    | [] => none
    | c :: r => if c = 32 ∧ 0 < o ∧ 0 < n then some (addMark hs ⟨32, toB r⟩, o - 1, n - 1)
      else if c = 45 ∧ 0 < o then some (addMark hs ⟨45, toB r⟩, o - 1, n)
      else if c = 43 ∧ 0 < n then some (addMark hs ⟨43, toB r⟩, o, n - 1) else none
  else match headOf s with
    | none => none
    | some (a, x, b, y) => some (hs ++ [⟨a, b, []⟩], x, y)
theorem add_mark : ∀ (hs : List Hunk) (h : Hunk) (m : Mark), addMark (hs ++ [h]) m = hs ++ [⟨h.old, h.new, h.marks ++ [m]⟩]
  | [], _, _ => rfl
  | [k], h, m => rfl
  | k :: j :: r, h, m => by
    have := add_mark (j :: r) h m
    rw [List.cons_append, List.cons_append] at *
    rw [addMark, this]; rfl
def SignOk (m : Mark) : Prop := m.sign = 32 ∨ m.sign = 45 ∨ m.sign = 43
theorem oldN_cons (m : Mark) (ms : List Mark) : oldN (m :: ms) = (if m.sign ≠ 43 then 1 else 0) + oldN ms := by
  unfold oldN those
  rw [List.filter_cons]
  by_cases h : m.sign = 43
  · rw [if_neg (by simp [h]), if_neg (by simp [h]), Nat.zero_add]
  · rw [if_pos (by simp [h]), if_pos h, List.map_cons, List.length_cons, Nat.add_comm]
theorem newN_cons (m : Mark) (ms : List Mark) : newN (m :: ms) = (if m.sign ≠ 45 then 1 else 0) + newN ms := by
  unfold newN those
  rw [List.filter_cons]
  by_cases h : m.sign = 45
  · rw [if_neg (by simp [h]), if_neg (by simp [h]), Nat.zero_add]
  · rw [if_pos (by simp [h]), if_pos h, List.map_cons, List.length_cons, Nat.add_comm]
/-- a mark is read -/
theorem read_mark {m : Mark} (hm : SignOk m) {o n : Nat} (hs : List Hunk) (h : Hunk) :
    readLine (hs ++ [h]) ((if m.sign ≠ 43 then 1 else 0) + o) ((if m.sign ≠ 45 then 1 else 0) + n) (markL m) = some (hs ++ [⟨h.old, h.new, h.marks ++ [m]⟩], o, n) := by
  obtain ⟨sg, tx⟩ := m
  unfold readLine markL signOf
  rcases hm with e | e | e <;> simp only at e <;> subst e
  · rw [if_pos (by simp; omega)]
    simp only
    rw [if_pos ⟨rfl, by simp; omega, by simp; omega⟩, add_mark, toB_of]
    simp
  · rw [if_pos (by simp; omega)]
    simp only
    rw [if_neg (by rintro ⟨q, _⟩; exact absurd q (by decide)), if_pos ⟨rfl, by simp; omega⟩, add_mark, toB_of]
    simp
  · rw [if_pos (by simp; omega)]
    simp only
    rw [if_neg (by rintro ⟨q, _⟩; exact absurd q (by decide)), if_neg (by rintro ⟨q, _⟩; exact absurd q (by decide)), if_pos ⟨rfl, by simp; omega⟩, add_mark, toB_of]
    simp
/-- a hunk that may be written -/
def HeadOk (h : Hunk) : Prop := 0 ≤ h.old ∧ h.old < 999 ∧ 0 ≤ h.new ∧ h.new < 999 ∧ oldN h.marks < 1000 ∧ newN h.marks < 1000 ∧ ∀ m ∈ h.marks, SignOk m
/-! ### what is read was written so -/
end Go.Proofs.YtjiaidchcldocaaGreatDoor
namespace Go.Proofs.YtjiaidchcldocaaGreatDoor

theorem parts_text : ∀ (ls : List (List UInt8)) (r : List UInt8), (∀ x ∈ ls, ∀ c ∈ x, c ≠ 10) → parts 10 (textL ls ++ r) = ls ++ parts 10 r
  | [], _, _ => rfl
  | x :: ls, r, h => by
    have e : textL (x :: ls) ++ r = x ++ 10 :: (textL ls ++ r) := by
      show (x ++ [10] ++ textL ls) ++ r = _
      simp
    rw [e, parts_cut _ (h x (List.mem_cons_self ..)), parts_text ls r fun y hy => h y (List.mem_cons_of_mem _ hy)]
    rfl
/-! ### hunks that may be -/
theorem mark_ok {m : Mark} (h : markFault m = 0) : SignOk m ∧ (∀ c ∈ m.text.data.toList, c ≠ 10) ∧ m.text.size ≤ 80 := by
  unfold markFault at h
  by_cases hs : m.sign ≠ 32 ∧ m.sign ≠ 45 ∧ m.sign ≠ 43
  · rw [if_pos hs] at h; cases h
  · rw [if_neg hs] at h
    unfold lineFault at h
    cases hn : hasNl m.text with
    | true => rw [hn] at h; cases h
    | false =>
      rw [hn] at h
      refine ⟨?_, fun c hc e => ?_, ?_⟩
      · unfold SignOk
        by_cases h1 : m.sign = 32
        · exact .inl h1
        · by_cases h2 : m.sign = 45
          · exact .inr (.inl h2)
          · by_cases h3 : m.sign = 43
            · exact .inr (.inr h3)
            · exact absurd ⟨h1, h2, h3⟩ hs
      · subst e
        unfold hasNl at hn
        rw [List.contains_iff_mem.2 hc] at hn; cases hn
      · by_cases hz : 80 < m.text.size
        · rw [if_neg (by decide), if_pos hz] at h; cases h
        · omega
theorem marks_ok {ms : List Mark} (h : scriptFault ms = 0) : ∀ m ∈ ms, markFault m = 0 := by
  unfold scriptFault at h
  by_cases hl : 120 < ms.length
  · rw [if_pos hl] at h; cases h
  · rw [if_neg hl] at h
    exact (firstOf_zero markFault ms).1 h
theorem one_ok {h : Hunk} {fin more : Int} (e : oneFault h fin more = 0) : (∀ m ∈ h.marks, markFault m = 0) ∧ 0 ≤ h.old ∧ 0 ≤ h.new ∧ h.old + oldN h.marks ≤ 60 ∧ h.new + newN h.marks ≤ 60 ∧ fin ≤ h.old ∧ h.new = h.old + more := by
  unfold oneFault at e
  by_cases h1 : scriptFault h.marks ≠ 0
  · rw [if_pos h1] at e; exact absurd e h1
  · rw [if_neg h1] at e
    by_cases h2 : hasChange h.marks = false
    · rw [if_pos h2] at e; cases e
    · rw [if_neg h2] at e
      by_cases h3 : h.old < 0 ∨ 60 < h.old ∨ h.new < 0 ∨ 60 < h.new ∨ 60 < h.old + oldN h.marks ∨ 60 < h.new + newN h.marks
      · rw [if_pos h3] at e; cases e
      · rw [if_neg h3] at e
        by_cases h4 : h.old < fin ∨ h.new ≠ h.old + more
        · rw [if_pos h4] at e; cases e
        · refine ⟨marks_ok (by simpa using h1), ?_, ?_, ?_, ?_, ?_, ?_⟩ <;> omega
theorem one_head {h : Hunk} {fin more : Int} (e : oneFault h fin more = 0) : HeadOk h := by
  obtain ⟨q1, q2, q3, q4, q5, _⟩ := one_ok e
  exact ⟨q2, by omega, q3, by omega, by omega, by omega, fun m hm => (mark_ok (q1 m hm)).1⟩
theorem dec_len {n : Nat} (h : n < 1000) : (Lib.decDigits n).length ≤ 3 := by rw [digits_three h]; exact dec3_len n h
theorem span_len {a : Int} {m : Nat} (h0 : 0 ≤ a) (h1 : a < 999) (hm : m < 1000) : (spanL a m).length ≤ 7 := by
  obtain ⟨x, hx, hx3⟩ : ∃ x : Nat, (if 0 < m then a + 1 else a) = (x : Int) ∧ x < 1000 := ⟨(if 0 < m then a + 1 else a).toNat, by split <;> omega, by split <;> omega⟩
  unfold spanL
  rw [hx, itoa_nat, itoa_nat, List.length_append, List.length_append]
  have := dec_len hx3
  have := dec_len hm
  simp only [List.length_singleton]
  omega
theorem head_len {h : Hunk} (hh : HeadOk h) : (headL h.old (oldN h.marks) h.new (newN h.marks)).length ≤ 23 := by
  obtain ⟨h1, h2, h3, h4, h5, h6, _⟩ := hh
  have := span_len h1 h2 h5
  have := span_len h3 h4 h6
  unfold headL atAt endAt
  simp only [List.length_append, List.length_cons, List.length_nil]
  omega
theorem marks_len : ∀ (ms : List Mark), (∀ m ∈ ms, markFault m = 0) → (textL (ms.map markL)).length ≤ 82 * (oldN ms + newN ms)
  | [], _ => by simp [textL]
  | m :: ms, h => by
    have ih := marks_len ms fun k hk => h k (List.mem_cons_of_mem _ hk)
    obtain ⟨q1, _, q3⟩ := mark_ok (h m (List.mem_cons_self ..))
    have e : (textL ((m :: ms).map markL)).length = m.text.size + 2 + (textL (ms.map markL)).length := by
      show (markL m ++ [10] ++ textL (ms.map markL)).length = _
      unfold markL
      simp only [List.length_append, List.length_cons, List.length_nil, Array.length_toList, ByteArray.size_data]
    rw [e, oldN_cons, newN_cons]
    have : 1 ≤ (if m.sign ≠ 43 then 1 else 0) + (if m.sign ≠ 45 then 1 else 0) := by
      rcases q1 with q | q | q <;> rw [q] <;> decide
    omega
theorem textL_app (a b : List (List UInt8)) : textL (a ++ b) = textL a ++ textL b := by unfold textL; rw [List.map_append, List.flatten_append]
theorem hunk_len {h : Hunk} {fin more : Int} (e : oneFault h fin more = 0) : (textL (hunkL h)).length ≤ 24 + 82 * (oldN h.marks + newN h.marks) := by
  have h1 := head_len (one_head e)
  have h2 := marks_len h.marks (one_ok e).1
  have : (textL (hunkL h)).length = (headL h.old (oldN h.marks) h.new (newN h.marks)).length + 1 + (textL (h.marks.map markL)).length := by
    show (headL h.old (oldN h.marks) h.new (newN h.marks) ++ [10] ++ textL (h.marks.map markL)).length = _
    simp only [List.length_append, List.length_singleton]
  omega
theorem go_ok : ∀ (l : List Hunk) (i : Nat) (fin more : Int), fin ≤ 60 → fin + more ≤ 60 → (hunksGo i fin more l).2 = 0 →
    (∀ h ∈ l, HeadOk h) ∧ (∀ x ∈ linesU l, ∀ c ∈ x, c ≠ 10) ∧ ((textL (linesU l)).length : Int) ≤ 24 * l.length + 82 * ((60 - fin) + (60 - fin - more))
  | [], _, fin, more, h1, h2, _ => ⟨fun _ h => (by cases h), fun _ h => (by cases h), by show (0 : Int) ≤ 24 * 0 + _; omega⟩
  | h :: l, i, fin, more, h1, h2, e => by
    rw [hunksGo] at e
    by_cases h0 : oneFault h fin more = 0
    · rw [if_pos h0] at e
      obtain ⟨q1, q2, q3, q4, q5, q6, q7⟩ := one_ok h0
      obtain ⟨i1, i2, i3⟩ := go_ok l (i + 1) (h.old + oldN h.marks) (more + newN h.marks - oldN h.marks) (by omega) (by omega) e
      have hl := hunk_len h0
      have eu : linesU (h :: l) = hunkL h ++ linesU l := rfl
      refine ⟨fun k hk => ?_, fun x hx c hc => ?_, ?_⟩
      · rcases List.mem_cons.1 hk with rfl | hk
        · exact one_head h0
        · exact i1 k hk
      · rw [eu] at hx
        rcases List.mem_append.1 hx with hx | hx
        · obtain ⟨a1, a2, a3, a4, a5, a6, a7⟩ := one_head h0
          rcases List.mem_cons.1 hx with rfl | hx
          · have dig : ∀ {a : Int} {m : Nat}, 0 ≤ a → a < 999 → m < 1000 → ∀ d ∈ spanL a m, d ≠ 10 := fun b0 b1 b2 d hd e => by
              have := span_chars b0 b1 b2 hd
              rw [e] at this
              exact absurd this (by decide)
            unfold headL atAt endAt at hc
            intro e
            rcases List.mem_append.1 hc with hc | hc
            · rw [e] at hc; exact absurd hc (by decide)
            · rcases List.mem_append.1 hc with hc | hc
              · rcases List.mem_append.1 hc with hc | hc
                · rcases List.mem_append.1 hc with hc | hc
                  · exact dig a1 a2 a5 c hc e
                  · rw [e] at hc; exact absurd hc (by decide)
                · exact dig a3 a4 a6 c hc e
              · rw [e] at hc; exact absurd hc (by decide)
          · obtain ⟨m, hm, rfl⟩ := List.mem_map.1 hx
            obtain ⟨s1, s2, _⟩ := mark_ok (q1 m hm)
            rcases List.mem_cons.1 hc with rfl | hc
            · unfold signOf
              rcases s1 with s | s | s <;> rw [s] <;> decide
            · exact s2 c hc
        · exact i2 x hx c hc
      · rw [eu, textL_app, List.length_append, List.length_cons]
        omega
    · rw [if_neg h0] at e
      exact absurd e h0
theorem hunks_ok {l : List Hunk} (e : (hunksFault l).2 = 0) : (∀ h ∈ l, HeadOk h) ∧ (∀ x ∈ linesU l, ∀ c ∈ x, c ≠ 10) ∧ (textU l).length ≤ 400000 := by
  unfold hunksFault at e
  by_cases hl : 60 < l.length
  · rw [if_pos hl] at e; cases e
  · rw [if_neg hl] at e
    obtain ⟨h1, h2, h3⟩ := go_ok l 0 0 0 (by decide) (by decide) e
    refine ⟨h1, h2, ?_⟩
    show (textL (linesU l)).length ≤ _
    omega
end Go.Proofs.YtjiaidchcldocaaGreatDoor
namespace Go.Proofs.YtjiaidchcldocaaGreatDoor

def noneL : List UInt8 := [47, 100, 101, 118, 47, 110, 117, 108, 108]
def mmL : List UInt8 := [45, 45, 45, 32]
def ppL : List UInt8 := [43, 43, 43, 32]
def fromL (w : Int) (p : List UInt8) : List UInt8 := if w = 2 then noneL else [97, 47] ++ p
def toL (w : Int) (p : List UInt8) : List UInt8 := if w = 3 then noneL else [98, 47] ++ p
def changeL (c : Change) : List (List UInt8) := (mmL ++ fromL c.what c.path.data.toList) :: (ppL ++ toL c.what c.path.data.toList) :: linesU c.hunks
def linesG (p : List Change) : List (List UInt8) := p.flatMap changeL
/-- what two lines say -/
def headedR (a b : List UInt8) : Option (Int × List UInt8) := match dropPre [97, 47] a, dropPre [98, 47] b with
  | some f, some t => if f = t then some (1, f) else none
  | none, some t => if a = noneL then some (2, t) else none
  | some f, none => if b = noneL then some (3, f) else none
  | none, none => none
def headedL (a b : List UInt8) : Option (Int × List UInt8) := match dropPre mmL a, dropPre ppL b with
  | some a, some b => headedR a b
  | _, _ => none
theorem headed_back {w : Int} (p : List UInt8) (h : w = 1 ∨ w = 2 ∨ w = 3) : headedL (mmL ++ fromL w p) (ppL ++ toL w p) = some (w, p) := by
  unfold headedL
  rw [pre_app, pre_app]
  simp only
  unfold headedR
  rcases h with rfl | rfl | rfl
  · rw [show fromL 1 p = [97, 47] ++ p from rfl, show toL 1 p = [98, 47] ++ p from rfl, pre_app, pre_app]
    simp
  · rw [show fromL 2 p = noneL from rfl, show toL 2 p = [98, 47] ++ p from rfl, pre_app, show dropPre [97, 47] noneL = none from rfl]
    simp
  · rw [show fromL 3 p = [97, 47] ++ p from rfl, show toL 3 p = noneL from rfl, pre_app, show dropPre [98, 47] noneL = none from rfl]
    simp
theorem headed_some {a b p : List UInt8} {w : Int} (h : headedL a b = some (w, p)) : (w = 1 ∨ w = 2 ∨ w = 3) ∧ a = mmL ++ fromL w p ∧ b = ppL ++ toL w p := by
  unfold headedL at h
  cases ha : dropPre mmL a with
  | none => rw [ha] at h; cases h
  | some x =>
    cases hb : dropPre ppL b with
    | none => rw [ha, hb] at h; cases h
    | some y =>
      rw [ha, hb] at h
      simp only at h
      rw [pre_some ha, pre_some hb]
      unfold headedR at h
      cases hf : dropPre [97, 47] x with
      | none =>
        cases ht : dropPre [98, 47] y with
        | none => rw [hf, ht] at h; cases h
        | some t =>
          rw [hf, ht] at h
          simp only at h
          by_cases e : x = noneL
          · rw [if_pos e] at h
            injection h with h
            injection h with h1 h2
            subst h1; subst h2
            exact ⟨.inr (.inl rfl), by rw [e]; rfl, by rw [pre_some ht]; rfl⟩
          · rw [if_neg e] at h; cases h
      | some f =>
        cases ht : dropPre [98, 47] y with
        | none =>
          rw [hf, ht] at h
          simp only at h
          by_cases e : y = noneL
          · rw [if_pos e] at h
            injection h with h
            injection h with h1 h2
            subst h1; subst h2
            exact ⟨.inr (.inr rfl), by rw [pre_some hf]; rfl, by rw [e]; rfl⟩
          · rw [if_neg e] at h; cases h
        | some t =>
          rw [hf, ht] at h
          simp only at h
          by_cases e : f = t
          · rw [if_pos e] at h
            injection h with h
            injection h with h1 h2
            subst h1; subst h2
            exact ⟨.inl rfl, by rw [pre_some hf]; rfl, by rw [pre_some ht, e]; rfl⟩
          · rw [if_neg e] at h; cases h
def hunkHead (s : List UInt8) : Bool := [64, 64].isPrefixOf s
/-- hunks are read as long as there are some: these, the lines behind -/
def takeU : List (List UInt8) → List Hunk → Nat → Nat → Option (List Hunk × List (List UInt8))
  | [], hs, o, n => if 0 < o ∨ 0 < n then none else some (hs, [])
  | s :: r, hs, o, n => if (0 < o ∨ 0 < n) ∨ hunkHead s = true then match readLine hs o n s with
      | none => none
      | some (hs', o', n') => takeU r hs' o' n'
    else some (hs, s :: r)
def changesG : Nat → List (List UInt8) → Option (List Change)
  | _, [] => some []
  | 0, _ :: _ => none
  | _ + 1, [_] => none
  | k + 1, a :: b :: r => match headedL a b with
    | none => none
    | some (w, p) => match takeU r [] 0 0 with
      | none => none
      | some (hs, rest) => (changesG k rest).map fun q => ⟨w, toB p, hs⟩ :: q
theorem take_cons {s : List UInt8} {hs hs' : List Hunk} {o n o' n' : Nat} (h0 : (0 < o ∨ 0 < n) ∨ hunkHead s = true) (h : readLine hs o n s = some (hs', o', n')) (r : List (List UInt8)) : takeU (s :: r) hs o n = takeU r hs' o' n' := by
  rw [takeU, if_pos h0, h]
theorem take_marks (rest : List (List UInt8)) (hs : List Hunk) (a b : Int) : ∀ (ms done : List Mark) (o n : Nat), (∀ m ∈ ms, SignOk m) →
    takeU (ms.map markL ++ rest) (hs ++ [⟨a, b, done⟩]) (oldN ms + o) (newN ms + n) = takeU rest (hs ++ [⟨a, b, done ++ ms⟩]) o n
  | [], done, o, n, _ => by
    show takeU rest _ (0 + o) (0 + n) = _
    rw [Nat.zero_add, Nat.zero_add, List.append_nil]
  | m :: ms, done, o, n, h => by
    have h1 := h m (List.mem_cons_self ..)
    have hop : 0 < (if m.sign ≠ 43 then 1 else 0) + (oldN ms + o) ∨ 0 < (if m.sign ≠ 45 then 1 else 0) + (newN ms + n) := by
      rcases h1 with e | e | e <;> rw [e] <;> simp <;> omega
    rw [oldN_cons, newN_cons, Nat.add_assoc, Nat.add_assoc, List.map_cons, List.cons_append, take_cons (.inl hop) (read_mark h1 hs _), take_marks rest hs a b ms (done ++ [m]) o n (fun k hk => h k (List.mem_cons_of_mem _ hk)), List.append_assoc]
    rfl
theorem take_hunk {h : Hunk} (hh : HeadOk h) (rest : List (List UInt8)) (hs : List Hunk) : takeU (hunkL h ++ rest) hs 0 0 = takeU rest (hs ++ [h]) 0 0 := by
  obtain ⟨h1, h2, h3, h4, h5, h6, h7⟩ := hh
  unfold hunkL
  have e : readLine hs 0 0 (headL h.old (oldN h.marks) h.new (newN h.marks)) = some (hs ++ [⟨h.old, h.new, []⟩], oldN h.marks, newN h.marks) := by
    unfold readLine
    rw [if_neg (by omega), head_back h1 h2 h5 h3 h4 h6]
  rw [List.cons_append, take_cons (.inr rfl) e]
  have := take_marks rest hs h.old h.new h.marks [] 0 0 h7
  simp only [Nat.add_zero, List.nil_append] at this
  rw [this]
theorem take_hunks {rest : List (List UInt8)} (hr : ∀ s r, rest = s :: r → hunkHead s = false) : ∀ (l hs : List Hunk), (∀ h ∈ l, HeadOk h) → takeU (linesU l ++ rest) hs 0 0 = some (hs ++ l, rest)
  | [], hs, _ => by
    rw [List.append_nil]
    show takeU rest hs 0 0 = _
    cases rest with
    | nil => rw [takeU, if_neg (by omega)]
    | cons s r => rw [takeU, if_neg (by rw [hr s r rfl]; simp)]
  | h :: l, hs, hl => by
    have e : linesU (h :: l) = hunkL h ++ linesU l := rfl
    rw [e, List.append_assoc, take_hunk (hl h (List.mem_cons_self ..)), take_hunks hr l (hs ++ [h]) (fun k hk => hl k (List.mem_cons_of_mem _ hk)), List.append_assoc]
    rfl
/-- what is printed is read -/
theorem changes_back : ∀ (p : List Change) (k : Nat), (linesG p).length ≤ k → (∀ c ∈ p, (c.what = 1 ∨ c.what = 2 ∨ c.what = 3) ∧ ∀ h ∈ c.hunks, HeadOk h) → changesG k (linesG p) = some p
  | [], k, _, _ => by rw [show linesG [] = [] from rfl, changesG]
  | c :: p, k, hk, h => by
    have e : linesG (c :: p) = (mmL ++ fromL c.what c.path.data.toList) :: (ppL ++ toL c.what c.path.data.toList) :: (linesU c.hunks ++ linesG p) := rfl
    rw [e] at hk ⊢
    obtain ⟨k, rfl⟩ : ∃ j, k = j + 1 := ⟨k - 1, by simp at hk; omega⟩
    obtain ⟨hw, hh⟩ := h c (List.mem_cons_self ..)
    have hr : ∀ s r, linesG p = s :: r → hunkHead s = false := fun s r q => by
      cases p with
      | nil => cases q
      | cons d p =>
        have q' : (mmL ++ fromL d.what d.path.data.toList) :: _ = s :: r := q
        injection q' with q1 _
        rw [← q1]; rfl
    rw [changesG, headed_back _ hw]
    simp only
    rw [take_hunks hr c.hunks [] hh]
    simp only
    rw [changes_back p k (by simp at hk; omega) (fun d hd => h d (List.mem_cons_of_mem _ hd)), toB_of]
    rfl
end Go.Proofs.YtjiaidchcldocaaGreatDoor
namespace Go.Proofs.YtjiaidchcldocaaGreatDoor

/-! ### the order of paths -/
theorem bl_cons (a b : UInt8) (x y : List UInt8) : Op.bytesLess (a :: x) (b :: y) = (decide (a < b) || (a == b && Op.bytesLess x y)) := by rw [Op.bytesLess]
theorem bl_nil_r (x : List UInt8) : Op.bytesLess x [] = false := by cases x <;> rfl
theorem bl_irrefl : ∀ x : List UInt8, Op.bytesLess x x = false
  | [] => rfl
  | a :: x => by rw [bl_cons, bl_irrefl x]; simp
theorem bl_trans : ∀ {x y z : List UInt8}, Op.bytesLess x y = true → Op.bytesLess y z = true → Op.bytesLess x z = true
  | _, [], _, h, _ => by rw [bl_nil_r] at h; cases h
  | _, _ :: _, [], _, h => by rw [bl_nil_r] at h; cases h
  | [], _ :: _, _ :: _, _, _ => rfl
  | a :: x, b :: y, c :: z, h, g => by
    rw [bl_cons] at h g ⊢
    simp only [Bool.or_eq_true, decide_eq_true_eq, Bool.and_eq_true, beq_iff_eq] at h g ⊢
    rcases h with h | ⟨rfl, h⟩
    · rcases g with g | ⟨rfl, g⟩
      · exact .inl (UInt8.lt_trans h g)
      · exact .inl h
    · rcases g with g | ⟨rfl, g⟩
      · exact .inl g
      · exact .inr ⟨rfl, bl_trans h g⟩
theorem bl_tri : ∀ x y : List UInt8, Op.bytesLess x y = true ∨ x = y ∨ Op.bytesLess y x = true
  | [], [] => .inr (.inl rfl)
  | [], _ :: _ => .inl rfl
  | _ :: _, [] => .inr (.inr rfl)
  | a :: x, b :: y => by
    rw [bl_cons, bl_cons]
    simp only [Bool.or_eq_true, decide_eq_true_eq, Bool.and_eq_true, beq_iff_eq, List.cons.injEq]
    rcases Nat.lt_trichotomy a.toNat b.toNat with h | h | h
    · exact .inl (.inl (UInt8.lt_iff_toNat_lt.2 h))
    · have hab : a = b := UInt8.toNat_inj.1 h
      subst hab
      rcases bl_tri x y with h | h | h
      · exact .inl (.inr ⟨rfl, h⟩)
      · exact .inr (.inl ⟨rfl, h⟩)
      · exact .inr (.inr (.inr ⟨rfl, h⟩))
    · exact .inr (.inr (.inl (UInt8.lt_iff_toNat_lt.2 h)))
theorem compare_bl : ∀ x y : List UInt8, (Lib.compareBytes x y < 0 ↔ Op.bytesLess x y = true) ∧ (Lib.compareBytes x y = 0 ↔ x = y)
  | [], [] => by simp [Lib.compareBytes, Op.bytesLess]
  | [], _ :: _ => by simp [Lib.compareBytes, Op.bytesLess]
  | _ :: _, [] => by simp [Lib.compareBytes, Op.bytesLess]
  | a :: x, b :: y => by
    obtain ⟨i1, i2⟩ := compare_bl x y
    rw [bl_cons, Lib.compareBytes]
    by_cases h1 : a < b
    · have : a ≠ b := by rintro rfl; exact absurd h1 (UInt8.lt_irrefl a)
      simp [h1, this]
    · by_cases h2 : b < a
      · have : a ≠ b := by rintro rfl; exact absurd h2 (UInt8.lt_irrefl a)
        simp [h1, h2, this]
      · have hab : a = b := by
          have n1 : ¬ a.toNat < b.toNat := fun h => h1 (UInt8.lt_iff_toNat_lt.2 h)
          have n2 : ¬ b.toNat < a.toNat := fun h => h2 (UInt8.lt_iff_toNat_lt.2 h)
          exact UInt8.toNat_inj.1 (by omega)
        subst hab
        simp [h1, i1, i2]
def less (a b : ByteArray) : Bool := Op.bytesLess a.toList b.toList
theorem toList_inj {a b : ByteArray} (h : a.toList = b.toList) : a = b := by
  rw [Lib.toList_data, Lib.toList_data] at h
  exact ByteArray.ext (Array.toList_inj.1 h)
theorem less_irrefl (a : ByteArray) : less a a = false := bl_irrefl _
theorem less_trans {a b c : ByteArray} (h : less a b = true) (g : less b c = true) : less a c = true := bl_trans h g
theorem less_tri (a b : ByteArray) : less a b = true ∨ a = b ∨ less b a = true := by
  rcases bl_tri a.toList b.toList with h | h | h
  · exact .inl h
  · exact .inr (.inl (toList_inj h))
  · exact .inr (.inr h)
theorem less_asymm {a b : ByteArray} (h : less a b = true) : less b a = false := by
  cases hb : less b a with
  | false => rfl
  | true =>
    have := less_trans h hb
    rw [less_irrefl] at this
    cases this
theorem less_ne {a b : ByteArray} (h : less a b = true) : a ≠ b := by
  rintro rfl
  rw [less_irrefl] at h
  cases h
/-- the walk's 'a <= b' -/
def leqB (a b : ByteArray) : Bool := Op.bytesLess a.toList b.toList || a.toList == b.toList
theorem leqB_true {a b : ByteArray} : leqB a b = true ↔ less b a = false := by
  unfold leqB
  rw [Bool.or_eq_true, beq_iff_eq]
  constructor
  · rintro (h | h)
    · exact less_asymm h
    · rw [toList_inj h]; exact less_irrefl b
  · intro h
    rcases less_tri a b with g | g | g
    · exact .inl g
    · exact .inr (by rw [g])
    · rw [g] at h; cases h

/-! ### trees -/
def fileFault (f : File) : Int := if pathFault f.path = 0 then linesFault f.lines else pathFault f.path
def treeGo : Nat → Option ByteArray → List File → Nat × Int
  | _, _, [] => (0, 0)
  | i, prev, f :: r => if fileFault f ≠ 0 then (i, fileFault f) else if prev.any (fun p => leqB f.path p) = true then (i, 2) else treeGo (i + 1) (some f.path) r
def treeFault (t : List File) : Nat × Int := if 8 < t.length then (0, 3) else treeGo 0 none t
def Sorted (t : List File) : Prop := t.Pairwise fun f g => less f.path g.path = true

theorem treeGo_zero : ∀ (t : List File) (i : Nat) (prev : Option ByteArray), (treeGo i prev t).2 = 0 → (∀ f ∈ t, fileFault f = 0) ∧ Sorted t ∧ (∀ p f, prev = some p → f ∈ t → less p f.path = true) ∧ treeGo i prev t = (0, 0)
  | [], _, _, _ => ⟨by simp, List.Pairwise.nil, by simp, rfl⟩
  | f :: r, i, prev, h => by
    rw [treeGo] at h ⊢
    by_cases h1 : fileFault f ≠ 0
    · rw [if_pos h1] at h; exact absurd h h1
    · rw [if_neg h1] at h ⊢
      by_cases h2 : prev.any (fun p => leqB f.path p) = true
      · rw [if_pos h2] at h; cases h
      · rw [if_neg h2] at h ⊢
        obtain ⟨i1, i2, i3, i4⟩ := treeGo_zero r (i + 1) (some f.path) h
        refine ⟨?_, ?_, ?_, i4⟩
        · intro x hx
          rcases List.mem_cons.1 hx with rfl | hx
          · simpa using h1
          · exact i1 x hx
        · exact List.Pairwise.cons (fun g hg => i3 f.path g rfl hg) i2
        · rintro p x rfl hx
          have hp : less p f.path = true := by
            simp only [Option.any_some] at h2
            rcases less_tri p f.path with g | g | g
            · exact g
            · exact absurd (leqB_true.2 (by rw [g]; exact less_irrefl _)) h2
            · exact absurd (leqB_true.2 (less_asymm g)) h2
          rcases List.mem_cons.1 hx with rfl | hx
          · exact hp
          · exact less_trans hp (i3 f.path x rfl hx)
theorem treeFault_zero {t : List File} (h : (treeFault t).2 = 0) : t.length ≤ 8 ∧ (∀ f ∈ t, fileFault f = 0) ∧ Sorted t ∧ treeFault t = (0, 0) := by
  unfold treeFault at h ⊢
  by_cases h1 : 8 < t.length
  · rw [if_pos h1] at h; cases h
  · rw [if_neg h1] at h ⊢
    obtain ⟨i1, i2, _, i4⟩ := treeGo_zero t 0 none h
    exact ⟨by omega, i1, i2, i4⟩
theorem fileFault_zero {f : File} (h : fileFault f = 0) : pathFault f.path = 0 ∧ linesFault f.lines = 0 := by
  unfold fileFault at h
  by_cases h1 : pathFault f.path = 0
  · rw [if_pos h1] at h; exact ⟨h1, h⟩
  · rw [if_neg h1] at h; exact absurd h h1

/-- where a path is, or would be -/
def posOf (t : List File) (p : ByteArray) : Nat := (t.takeWhile fun f => less f.path p).length
def isAt (t : List File) (p : ByteArray) : Bool := (t[posOf t p]?).any fun f => decide (f.path = p)
def putAt (t : List File) (f : File) : List File := t.take (posOf t f.path) ++ f :: t.drop (if isAt t f.path = true then posOf t f.path + 1 else posOf t f.path)
def dropAt (t : List File) (k : Nat) : List File := t.take k ++ t.drop (k + 1)
theorem pos_unique {t : List File} {p : ByteArray} {i : Nat} (h1 : ∀ q f, q < i → t[q]? = some f → less f.path p = true) (h2 : ∀ f, t[i]? = some f → less f.path p = false) (hi : i ≤ t.length) : posOf t p = i := by
  induction t generalizing i with
  | nil => simp at hi; subst hi; rfl
  | cons x t ih =>
    unfold posOf at ih ⊢
    cases i with
    | zero =>
      have := h2 x rfl
      rw [List.takeWhile_cons, this]; rfl
    | succ i =>
      have := h1 0 x (Nat.succ_pos i) rfl
      rw [List.takeWhile_cons, this]
      simp only [if_true, List.length_cons]
      congr 1
      exact ih (fun q f hq hf => h1 (q + 1) f (by omega) (by simpa using hf)) (fun f hf => h2 f (by simpa using hf)) (by simpa using hi)
theorem sorted_mono {t : List File} (h : Sorted t) {i j : Nat} {f g : File} (hij : i < j) (hi : t[i]? = some f) (hj : t[j]? = some g) : less f.path g.path = true := by
  obtain ⟨hi1, hi2⟩ := List.getElem?_eq_some_iff.1 hi
  obtain ⟨hj1, hj2⟩ := List.getElem?_eq_some_iff.1 hj
  have := List.pairwise_iff_getElem.1 h i j hi1 hj1 hij
  rw [hi2, hj2] at this
  exact this
end Go.Proofs.YtjiaidchcldocaaGreatDoor
