/-
  PARTS: FROM A LAW's WALK TO ITS STATEMENT: how the arguments read ('Opens'), and what is to be said behind the call ('post_law').; HOW ARGUMENTS READ: files, changes, and a struct that is an argument by itself.; HUNKS AS TEXTS, in plain Lean (chapter 5): numbers, spans, heads; lines written and read.; BYTES AS LETTERS, in plain Lean: what is written is read; 57 bytes more ahead are a line more ahead.; MAILS AS TEXTS, in plain Lean (chapter 12): one mail.; THE WALKS of strings.Builder's methods at a builder of one's own: copyCheck, WriteString, WriteByte.; BOXES, in plain Lean (chapter 12): one mail behind the other.; PARTS BETWEEN CUTS, in plain Lean: the library's splits are those of the plain laws.; TEXTS IN PARTS: small laws on rows of strings (light: no function of layers 1 to 9).; PATCHES FROM TREE TO TREE, in plain Lean (the statements of the whole): what is found between neighbours, what a series run leads to.
-/
import Derived.Test.YtjiaidchcldocaaGreatDoorPg1
import Derived.Test.YtjiaidchcldocaaGreatDoorPg2
import Derived.Test.YtjiaidchcldocaaGreatDoorPg3
import Derived.Test.YtjiaidchcldocaaGreatDoorPg4
import Derived.Test.YtjiaidchcldocaaGreatDoorPg5
import Derived.Test.YtjiaidchcldocaaGreatDoorPg6
import Derived.Test.YtjiaidchcldocaaGreatDoorPg7
import Derived.Test.YtjiaidchcldocaaGreatDoorPg8
import Derived.Test.YtjiaidchcldocaaGreatDoorPg9
import Derived.Test.YtjiaidchcldocaaGreatDoorPg10
import Derived.Test.YtjiaidchcldocaaGreatDoorPg11
import Derived.Test.YtjiaidchcldocaaGreatDoorPg12
import Derived.Test.YtjiaidchcldocaaGreatDoorPg13
import Derived.Test.YtjiaidchcldocaaGreatDoorPg14
import Derived.Test.YtjiaidchcldocaaGreatDoorPg15
import Derived.Test.YtjiaidchcldocaaGreatDoorPg16
import Derived.Test.YtjiaidchcldocaaGreatDoorPg17
import Derived.Test.YtjiaidchcldocaaGreatDoorPg18
import Derived.Test.YtjiaidchcldocaaGreatDoorPg19
import Derived.Test.YtjiaidchcldocaaGreatDoorPg20
import Derived.Test.YtjiaidchcldocaaGreatDoorPg21
import Derived.Test.YtjiaidchcldocaaGreatDoorPg22
import Derived.Test.YtjiaidchcldocaaGreatDoorPg23
import Derived.Test.YtjiaidchcldocaaGreatDoorPg24
import Derived.Test.YtjiaidchcldocaaGreatDoorPg25
import Derived.Test.YtjiaidchcldocaaGreatDoorPg26
import Derived.Test.YtjiaidchcldocaaGreatDoorPg27
import Derived.Test.YtjiaidchcldocaaGreatDoorPg28
import Derived.Test.YtjiaidchcldocaaGreatDoorPg29
import Derived.Test.YtjiaidchcldocaaGreatDoorPg30
import Derived.Test.YtjiaidchcldocaaGreatDoorPg31
import Derived.Test.YtjiaidchcldocaaGreatDoorPg32
import Derived.Test.YtjiaidchcldocaaGreatDoorPg33
import Derived.Test.YtjiaidchcldocaaGreatDoorPg34
import Derived.Test.YtjiaidchcldocaaGreatDoorPg35
import Derived.Test.YtjiaidchcldocaaGreatDoorPg36
import Derived.Test.YtjiaidchcldocaaGreatDoorPg37
import Derived.Test.YtjiaidchcldocaaGreatDoorPg38
import Derived.Test.YtjiaidchcldocaaGreatDoorRows
import Derived.ProofKit
import Derived.OpenShut
import Derived.JoinedCond
import Derived.Deep.Slices
import Derived.Deep.Strs
import Derived.ChangeSame
import Derived.Lib.ItoaNum
import Derived.Lib.AtoiTie
import Derived.Shelf.Strings.BuilderK
import Derived.Lib.SplitLaws
set_option linter.unusedVariables false
set_option linter.unusedSimpArgs false
namespace Go.Proofs.YtjiaidchcldocaaGreatDoor
open Go.ChangeShapes Go.WideShapes Go.ChangeAt Go.RowKit

theorem opens_int {P : Program} {t : TypeId} (ht : P.underlying t = some (.int .i64)) : Opens P t Int := by
  intro H enc w base spare held fuel cs d ps h
  obtain ⟨n, rfl, hx, hw⟩ := DataW.trod_int ht h
  simp only [Prod.mk.injEq] at hx
  obtain ⟨rfl, rfl⟩ := hx
  exact ⟨n, ⟨rfl, i64_of_wf hw⟩, by simp [Dat.bulk, Rows.uptoBulk]⟩
theorem opens_ints : Opens Tryz.prog 23 (List Int) := opens_slice Tryz.underlying23 (by kernel_rfl) (opens_int Tryz.underlying3)
/-- the condition of the second form: the bulk of what comes in -/
theorem small_of {H : Type} {l : List (DataW H)} (hk : Rows.uptoSmall H l = true) : Rows.uptoBulkAll l ≤ 1048576 := of_decide_eq_true hk
end Go.Proofs.YtjiaidchcldocaaGreatDoor
namespace Go.Proofs.YtjiaidchcldocaaGreatDoor
open Go.ChangeShapes Go.WideShapes Go.ChangeAt Go.RowKit

theorem opens_trees : Opens Tryz.prog 67 (List (List File)) := opens_slice Tryz.underlying67 (by kernel_rfl) opens_files
end Go.Proofs.YtjiaidchcldocaaGreatDoor
namespace Go.Proofs.YtjiaidchcldocaaGreatDoor

theorem suf_some {q s r : List UInt8} (h : dropSuf q s = some r) : s = r ++ q := by
  unfold dropSuf at h
  by_cases e : q.isSuffixOf s = true
  · rw [if_pos e] at h
    injection h with h
    obtain ⟨p, hp⟩ := List.isSuffixOf_iff_suffix.1 e
    rw [← h, ← hp, List.length_append, Nat.add_sub_cancel, List.take_left]
  · rw [if_neg e] at h; cases h

end Go.Proofs.YtjiaidchcldocaaGreatDoor
namespace Go.Proofs.YtjiaidchcldocaaGreatDoor

/-- the 64 letters -/
def letters : List UInt8 := [65, 66, 67, 68, 69, 70, 71, 72, 73, 74, 75, 76, 77, 78, 79, 80, 81, 82, 83, 84, 85, 86, 87, 88, 89, 90, 97, 98, 99, 100, 101, 102, 103, 104, 105, 106, 107, 108, 109, 110, 111, 112, 113, 114, 115, 116, 117, 118, 119, 120, 121, 122, 48, 49, 50, 51, 52, 53, 54, 55, 56, 57, 43, 47]
def letterAt (k : Nat) : UInt8 := letters.getD k 0
def idxOf (c : UInt8) : Option Nat := letters.findIdx? (· == c)
/-- up to three bytes as a number -/
def num3 : List UInt8 → Nat
  | [] => 0
  | [a] => a.toNat * 65536
  | [a, b] => a.toNat * 65536 + b.toNat * 256
  | a :: b :: c :: _ => a.toNat * 65536 + b.toNat * 256 + c.toNat
/-- four letters of at most three bytes -/
def fourOf (l : List UInt8) : List UInt8 :=
  (List.range 4).map fun i => if l.length < i then 61 else letterAt (num3 l / 2 ^ (18 - 6 * i) % 64)
/-- the letters of some bytes, so many of them written before -/
def encGo : List UInt8 → Nat → List UInt8
  | [], _ => []
  | x :: r, n => fourOf ((x :: r).take 3) ++ (if (n + 4) % 76 = 0 ∨ (x :: r).drop 3 = [] then [10] else []) ++ encGo ((x :: r).drop 3) (n + 4)
termination_by l _ => l.length
decreasing_by simp; omega
def encL (l : List UInt8) : List UInt8 := encGo l 0
/-- letter by letter: bytes that come of them -/
def decGo : List UInt8 → Nat → Nat → List UInt8 → List UInt8
  | [], _, _, out => out
  | c :: r, n, bits, out => match idxOf c with
    | none => out
    | some k => if 8 ≤ bits + 6 then decGo r ((n * 64 + k) % 2 ^ (bits + 6 - 8)) (bits + 6 - 8) (out ++ [UInt8.ofNat ((n * 64 + k) / 2 ^ (bits + 6 - 8))]) else decGo r (n * 64 + k) (bits + 6) out
def decL (s : List UInt8) : List UInt8 := decGo (s.filter (· ≠ 10)) 0 0 []

theorem idx_letter : ∀ k, k < 64 → idxOf (letterAt k) = some k := by decide +kernel
theorem letter_nl : ∀ k, k < 64 → letterAt k ≠ 10 := by decide +kernel
theorem four_nl (l : List UInt8) : ∀ c ∈ fourOf l, c ≠ 10 := by
  intro c hc
  unfold fourOf at hc
  obtain ⟨i, _, rfl⟩ := List.mem_map.1 hc
  split
  · decide
  · exact letter_nl _ (Nat.mod_lt _ (by decide))
theorem four_len (l : List UInt8) : (fourOf l).length = 4 := by simp [fourOf]
theorem four_3 (a b c : UInt8) : fourOf [a, b, c] = [letterAt (a.toNat / 4), letterAt (a.toNat % 4 * 16 + b.toNat / 16), letterAt (b.toNat % 16 * 4 + c.toNat / 64), letterAt (c.toNat % 64)] := by
  have ha := a.toNat_lt
  have hb := b.toNat_lt
  have hc := c.toNat_lt
  have e0 : (a.toNat * 65536 + b.toNat * 256 + c.toNat) / 262144 % 64 = a.toNat / 4 := by omega
  have e1 : (a.toNat * 65536 + b.toNat * 256 + c.toNat) / 4096 % 64 = a.toNat % 4 * 16 + b.toNat / 16 := by omega
  have e2 : (a.toNat * 65536 + b.toNat * 256 + c.toNat) / 64 % 64 = b.toNat % 16 * 4 + c.toNat / 64 := by omega
  have e3 : (a.toNat * 65536 + b.toNat * 256 + c.toNat) / 1 % 64 = c.toNat % 64 := by omega
  show [letterAt ((a.toNat * 65536 + b.toNat * 256 + c.toNat) / 262144 % 64), letterAt ((a.toNat * 65536 + b.toNat * 256 + c.toNat) / 4096 % 64), letterAt ((a.toNat * 65536 + b.toNat * 256 + c.toNat) / 64 % 64), letterAt ((a.toNat * 65536 + b.toNat * 256 + c.toNat) / 1 % 64)] = _
  rw [e0, e1, e2, e3]
theorem four_2 (a b : UInt8) : fourOf [a, b] = [letterAt (a.toNat / 4), letterAt (a.toNat % 4 * 16 + b.toNat / 16), letterAt (b.toNat % 16 * 4), 61] := by
  have ha := a.toNat_lt
  have hb := b.toNat_lt
  have e0 : (a.toNat * 65536 + b.toNat * 256) / 262144 % 64 = a.toNat / 4 := by omega
  have e1 : (a.toNat * 65536 + b.toNat * 256) / 4096 % 64 = a.toNat % 4 * 16 + b.toNat / 16 := by omega
  have e2 : (a.toNat * 65536 + b.toNat * 256) / 64 % 64 = b.toNat % 16 * 4 := by omega
  show [letterAt ((a.toNat * 65536 + b.toNat * 256) / 262144 % 64), letterAt ((a.toNat * 65536 + b.toNat * 256) / 4096 % 64), letterAt ((a.toNat * 65536 + b.toNat * 256) / 64 % 64), 61] = _
  rw [e0, e1, e2]
theorem four_1 (a : UInt8) : fourOf [a] = [letterAt (a.toNat / 4), letterAt (a.toNat % 4 * 16), 61, 61] := by
  have ha := a.toNat_lt
  have e0 : (a.toNat * 65536) / 262144 % 64 = a.toNat / 4 := by omega
  have e1 : (a.toNat * 65536) / 4096 % 64 = a.toNat % 4 * 16 := by omega
  show [letterAt ((a.toNat * 65536) / 262144 % 64), letterAt ((a.toNat * 65536) / 4096 % 64), 61, 61] = _
  rw [e0, e1]
theorem dec_step {k n bits : Nat} (hk : k < 64) (r out : List UInt8) : decGo (letterAt k :: r) n bits out = if 8 ≤ bits + 6 then decGo r ((n * 64 + k) % 2 ^ (bits + 6 - 8)) (bits + 6 - 8) (out ++ [UInt8.ofNat ((n * 64 + k) / 2 ^ (bits + 6 - 8))]) else decGo r (n * 64 + k) (bits + 6) out := by
  rw [decGo, idx_letter k hk]
theorem dec_stop (r : List UInt8) (n bits : Nat) (out : List UInt8) : decGo (61 :: r) n bits out = out := by
  rw [decGo, show idxOf 61 = none by decide +kernel]
theorem ofNat_is {a : UInt8} {n : Nat} (h : n = a.toNat) : UInt8.ofNat n = a := by rw [h]; simp
theorem dec_two (a : UInt8) {k : Nat} (hk : k < 16) (r out : List UInt8) : decGo (letterAt (a.toNat / 4) :: letterAt (a.toNat % 4 * 16 + k) :: r) 0 0 out = decGo r k 4 (out ++ [a]) := by
  have ha := a.toNat_lt
  rw [dec_step (by omega), if_neg (by decide), dec_step (by omega), if_pos (by decide)]
  show decGo r (((0 * 64 + a.toNat / 4) * 64 + (a.toNat % 4 * 16 + k)) % 16) 4 (out ++ [UInt8.ofNat (((0 * 64 + a.toNat / 4) * 64 + (a.toNat % 4 * 16 + k)) / 16)]) = _
  rw [show ((0 * 64 + a.toNat / 4) * 64 + (a.toNat % 4 * 16 + k)) % 16 = k by omega, ofNat_is (a := a) (by omega)]
theorem dec_three (b : UInt8) {k : Nat} (hk : k < 4) (r out : List UInt8) : decGo (letterAt (b.toNat % 16 * 4 + k) :: r) (b.toNat / 16) 4 out = decGo r k 2 (out ++ [b]) := by
  have hb := b.toNat_lt
  rw [dec_step (by omega), if_pos (by decide)]
  show decGo r ((b.toNat / 16 * 64 + (b.toNat % 16 * 4 + k)) % 4) 2 (out ++ [UInt8.ofNat ((b.toNat / 16 * 64 + (b.toNat % 16 * 4 + k)) / 4)]) = _
  rw [show (b.toNat / 16 * 64 + (b.toNat % 16 * 4 + k)) % 4 = k by omega, ofNat_is (a := b) (by omega)]
theorem dec_four (c : UInt8) (r out : List UInt8) : decGo (letterAt (c.toNat % 64) :: r) (c.toNat / 64) 2 out = decGo r 0 0 (out ++ [c]) := by
  have hc := c.toNat_lt
  rw [dec_step (by omega), if_pos (by decide)]
  show decGo r ((c.toNat / 64 * 64 + c.toNat % 64) % 1) 0 (out ++ [UInt8.ofNat ((c.toNat / 64 * 64 + c.toNat % 64) / 1)]) = _
  rw [show (c.toNat / 64 * 64 + c.toNat % 64) % 1 = 0 by omega, ofNat_is (a := c) (by omega)]
theorem filter_four (l : List UInt8) : (fourOf l).filter (· ≠ 10) = fourOf l := List.filter_eq_self.2 fun c hc => by simpa using four_nl l c hc
theorem filter_nl (p : Prop) [Decidable p] : (if p then [(10 : UInt8)] else []).filter (· ≠ 10) = [] := by split <;> rfl
theorem dec_enc : ∀ (k : Nat) (l : List UInt8) (n : Nat) (out : List UInt8), l.length ≤ k → decGo ((encGo l n).filter (· ≠ 10)) 0 0 out = out ++ l
  | _, [], n, out, _ => by rw [encGo]; simp [decGo]
  | 0, _ :: _, _, _, h => by simp at h
  | _ + 1, [a], n, out, _ => by
    have ha := a.toNat_lt
    rw [encGo]
    simp only [List.take_succ_cons, List.take_nil, List.drop_succ_cons, List.drop_nil, List.filter_append, filter_four, filter_nl, List.append_nil]
    rw [encGo, four_1, show a.toNat % 4 * 16 = a.toNat % 4 * 16 + 0 by omega]
    simp only [List.filter_nil, List.append_nil]
    rw [dec_two a (by decide), dec_stop]
  | _ + 1, [a, b], n, out, _ => by
    have ha := a.toNat_lt
    have hb := b.toNat_lt
    rw [encGo]
    simp only [List.take_succ_cons, List.take_nil, List.drop_succ_cons, List.drop_nil, List.filter_append, filter_four, filter_nl, List.append_nil]
    rw [encGo, four_2, show b.toNat % 16 * 4 = b.toNat % 16 * 4 + 0 by omega]
    simp only [List.filter_nil, List.append_nil]
    rw [dec_two a (by omega), dec_three b (by decide), dec_stop]
    simp
  | k + 1, a :: b :: c :: r, n, out, h => by
    have ha := a.toNat_lt
    have hb := b.toNat_lt
    have hc := c.toNat_lt
    rw [encGo]
    simp only [List.take_succ_cons, List.take_zero, List.drop_succ_cons, List.drop_zero, List.filter_append, filter_four, filter_nl, List.append_nil]
    rw [four_3]
    simp only [List.cons_append, List.nil_append]
    rw [dec_two a (by omega), dec_three b (by omega), dec_four c, dec_enc k r (n + 4) _ (by simp at h; omega)]
    simp
/-- what is written is read -/
theorem dec_encL (l : List UInt8) : decL (encL l) = l := by
  unfold decL encL
  rw [dec_enc l.length l 0 [] (Nat.le_refl _), List.nil_append]
theorem enc_mod : ∀ (k : Nat) (l : List UInt8) (n m : Nat), l.length ≤ k → n % 76 = m % 76 → encGo l n = encGo l m
  | _, [], n, m, _, _ => by rw [encGo, encGo]
  | 0, _ :: _, _, _, h, _ => by simp at h
  | k + 1, x :: r, n, m, h, e => by
    rw [encGo, encGo]
    have e2 : (n + 4) % 76 = (m + 4) % 76 := by omega
    rw [enc_mod k ((x :: r).drop 3) (n + 4) (m + 4) (by simp at h ⊢; omega) e2, e2]
/-- so many groups of three ahead, and more behind -/
theorem enc_ahead : ∀ (k : Nat) (m : List UInt8) (b : List UInt8) (n : Nat), m.length = 3 * k → b ≠ [] → n + 4 * k ≤ 76 → ∃ s, encGo (m ++ b) n = s ++ (if n + 4 * k = 76 ∧ 0 < k then [10] else []) ++ encGo b (n + 4 * k) ∧ (0 < k → encGo m n = s ++ [10])
  | 0, m, b, n, h, _, _ => by
    have : m = [] := List.eq_nil_of_length_eq_zero h
    subst this
    exact ⟨[], by simp, fun h => absurd h (by decide)⟩
  | k + 1, m, b, n, h, hb, hn => by
    match m, h with
    | x :: y :: z :: r, h =>
      have hr : r.length = 3 * k := by simp at h; omega
      obtain ⟨s, h1, h2⟩ := enc_ahead k r b (n + 4) hr hb (by omega)
      have e1 : ((x :: y :: z :: r) ++ b).take 3 = [x, y, z] := rfl
      have e2 : ((x :: y :: z :: r) ++ b).drop 3 = r ++ b := rfl
      have e3 : (x :: y :: z :: r).take 3 = [x, y, z] := rfl
      have e4 : (x :: y :: z :: r).drop 3 = r := rfl
      have hne : r ++ b ≠ [] := by simp [hb]
      rw [List.cons_append, encGo, encGo]
      rw [show (x :: (y :: z :: r ++ b)) = (x :: y :: z :: r) ++ b from rfl, e1, e2, e3, e4, h1]
      by_cases hk : k = 0
      · subst hk
        have hr0 : r = [] := List.eq_nil_of_length_eq_zero hr
        subst hr0
        have hs : s = [] := by
          have := congrArg List.length h1
          simp at this
          exact this
        subst hs
        refine ⟨fourOf [x, y, z], ?_, fun _ => by rw [encGo, if_pos (.inr rfl)]; simp⟩
        by_cases h76 : n + 4 = 76
        · rw [if_pos (.inl (by rw [h76])), if_neg (by simp), if_pos ⟨by omega, by decide⟩]; simp
        · rw [if_neg (by rintro (h | h); · omega
                         · exact hne h), if_neg (by simp), if_neg (by rintro ⟨h, _⟩; omega)]; simp
      · have hn4 : ¬ (n + 4) % 76 = 0 := by omega
        have hrn : r ≠ [] := fun e => by rw [e] at hr; simp at hr; omega
        rw [if_neg (by rintro (h | h); · exact hn4 h
                       · exact hne h)]
        refine ⟨fourOf [x, y, z] ++ s, ?_, fun _ => ?_⟩
        · have e5 : n + 4 + 4 * k = n + 4 * (k + 1) := by omega
          rw [e5]
          have e6 : (n + 4 * (k + 1) = 76 ∧ 0 < k) ↔ (n + 4 * (k + 1) = 76 ∧ 0 < k + 1) := by omega
          simp only [e6, List.append_assoc, List.nil_append]
        · rw [if_neg (by rintro (h | h); · exact hn4 h
                         · exact hrn h), h2 (by omega)]
          simp
/-- 57 bytes more ahead are a line more ahead -/
theorem enc_line (m b : List UInt8) (h : m.length = 57) : encL (m ++ b) = encL m ++ encL b := by
  unfold encL
  by_cases hb : b = []
  · subst hb
    rw [List.append_nil, show encGo [] 0 = [] by rw [encGo], List.append_nil]
  · obtain ⟨s, h1, h2⟩ := enc_ahead 19 m b 0 (by omega) hb (by omega)
    rw [h1, h2 (by decide), enc_mod b.length b (0 + 4 * 19) 0 (Nat.le_refl _) (by decide)]
    simp
end Go.Proofs.YtjiaidchcldocaaGreatDoor
namespace Go.Proofs.YtjiaidchcldocaaGreatDoor

def fromW : List UInt8 := [70, 114, 111, 109, 58, 32]
def subjW : List UInt8 := [83, 117, 98, 106, 101, 99, 116, 58, 32]
def idW : List UInt8 := [77, 101, 115, 115, 97, 103, 101, 45, 73, 68, 58, 32, 60]
def codW : List UInt8 := [67, 111, 110, 116, 101, 110, 116, 45, 84, 114, 97, 110, 115, 102, 101, 114, 45, 69, 110, 99, 111, 100, 105, 110, 103, 58, 32, 98, 97, 115, 101, 54, 52]
def mailText (m : Mail) : List UInt8 :=
  (fromW ++ m.sender.data.toList) ++ [10] ++ ((subjW ++ m.subject.data.toList) ++ [10] ++ ((idW ++ (m.ident.data.toList ++ [62])) ++ [10] ++ (codW ++ [10] ++ ([] ++ [10] ++ encL m.body))))
/-- so many cuts at most -/
def splitN : Nat → List UInt8 → List (List UInt8)
  | 0, s => [s]
  | k + 1, s => match cutSub [10] s with
    | none => [s]
    | some (a, b) => a :: splitN k b
def fieldL (p q s : List UInt8) : List UInt8 := (dropSuf q ((dropPre p s).getD s)).getD ((dropPre p s).getD s)
def parseM (s : List UInt8) : Option Mail := match splitN 5 s with
  | [a, b, c, _, _, z] => if encL (decL z) = z ∧ (decL z).length ≤ 40000 then
      if mailFault ⟨toB (fieldL fromW [] a), toB (fieldL subjW [] b), toB (fieldL idW [62] c), decL z⟩ = 0 ∧ mailText ⟨toB (fieldL fromW [] a), toB (fieldL subjW [] b), toB (fieldL idW [62] c), decL z⟩ = s then
        some ⟨toB (fieldL fromW [] a), toB (fieldL subjW [] b), toB (fieldL idW [62] c), decL z⟩ else none
      else none
  | _ => none
theorem split_next {a : List UInt8} (k : Nat) (b : List UInt8) (h : ∀ c ∈ a, c ≠ 10) : splitN (k + 1) (a ++ [10] ++ b) = a :: splitN k b := by
  rw [splitN, cut_at (x := 10) (t := []) b h]
theorem word_nl {s : List UInt8} (h : wordB s = true) : ∀ c ∈ s, c ≠ 10 := fun c hc e => by
  unfold wordB at h
  rw [Bool.and_eq_true] at h
  have := List.all_eq_true.1 h.2 c hc
  rw [e] at this
  exact absurd this (by decide)
theorem field_back (p q r : List UInt8) : fieldL p q (p ++ (r ++ q)) = r := by
  unfold fieldL
  rw [pre_app]
  show (dropSuf q (r ++ q)).getD (r ++ q) = r
  rw [suf_app]; rfl
/-- what is printed is read -/
theorem mail_back {m : Mail} (h : mailFault m = 0) : parseM (mailText m) = some m := by
  have h0 := h
  unfold mailFault at h
  by_cases h1 : wordB m.sender.data.toList = false ∨ wordB m.subject.data.toList = false ∨ wordB m.ident.data.toList = false ∨ 60 ∈ m.ident.data.toList ∨ 62 ∈ m.ident.data.toList
  · rw [if_pos h1] at h; cases h
  · rw [if_neg h1] at h
    by_cases h2 : 40000 < m.body.length
    · rw [if_pos h2] at h; cases h
    · have w1 : wordB m.sender.data.toList = true := by
        cases e : wordB m.sender.data.toList with
        | true => rfl
        | false => exact absurd (.inl e) h1
      have w2 : wordB m.subject.data.toList = true := by
        cases e : wordB m.subject.data.toList with
        | true => rfl
        | false => exact absurd (.inr (.inl e)) h1
      have w3 : wordB m.ident.data.toList = true := by
        cases e : wordB m.ident.data.toList with
        | true => rfl
        | false => exact absurd (.inr (.inr (.inl e))) h1
      have join : ∀ {a b : List UInt8}, (∀ c ∈ a, c ≠ 10) → (∀ c ∈ b, c ≠ 10) → ∀ c ∈ a ++ b, c ≠ 10 := fun ha hb c hc => by
        rcases List.mem_append.1 hc with q | q
        · exact ha c q
        · exact hb c q
      have es : splitN 5 (mailText m) = [fromW ++ m.sender.data.toList, subjW ++ m.subject.data.toList, idW ++ (m.ident.data.toList ++ [62]), codW, [], encL m.body] := by
        unfold mailText
        rw [split_next 4 _ (join (by decide) (word_nl w1)), split_next 3 _ (join (by decide) (word_nl w2)), split_next 2 _ (join (by decide) (join (word_nl w3) (by decide))), split_next 1 _ (by decide), split_next 0 _ (by simp), splitN]
      have f1 : fieldL fromW [] (fromW ++ m.sender.data.toList) = m.sender.data.toList := by
        have := field_back fromW [] m.sender.data.toList
        rwa [List.append_nil] at this
      have f2 : fieldL subjW [] (subjW ++ m.subject.data.toList) = m.subject.data.toList := by
        have := field_back subjW [] m.subject.data.toList
        rwa [List.append_nil] at this
      unfold parseM
      rw [es]
      simp only
      rw [f1, f2, field_back, dec_encL, toB_of, toB_of, toB_of, if_pos ⟨rfl, by omega⟩, if_pos ⟨h0, rfl⟩]
/-- what is read is printed so -/
theorem mail_some {s : List UInt8} {m : Mail} (h : parseM s = some m) : mailText m = s ∧ mailFault m = 0 := by
  unfold parseM at h
  split at h
  · split at h
    · split at h
      · rename_i q
        injection h with h
        subst h
        exact ⟨q.2, q.1⟩
      · cases h
    · cases h
  · cases h
end Go.Proofs.YtjiaidchcldocaaGreatDoor
namespace Go.Proofs.YtjiaidchcldocaaGreatDoor
open Go.RowKit

set_option maxHeartbeats 1000000 in
set_option maxRecDepth 100000 in
theorem bld_check (B b : Nat) (bs : List Value) (w : World) (h : IsB B b bs w) :
    Calls Tryz.prog 114 #[.pointer (some ⟨b, 0, none⟩)] w fun e w' => e = .returned (.tuple #[]) ∧ BAt B b bs w' ∧ Below B w w' := by
  obtain ⟨j, hj, hjs⟩ := Option.map_eq_some_iff.1 bld_info
  rcases h with h | h
  · have c0 := h.cell0
    have hsh := h.shape
    have hfz := h.frozen0
    have hfin : BAt B b bs (w.setCell ⟨b, 0, none⟩ (.pointer (some ⟨b, 0, none⟩))) ∧ Below B w (w.setCell ⟨b, 0, none⟩ (.pointer (some ⟨b, 0, none⟩))) := ⟨h.used _, (Below.refl B w).setCell (p := ⟨b, 0, none⟩) h.1 _⟩
    clear h
    go_enter Tryz.func114, Tryz.ntmps114
    go_wp2_with fail
    rw [Lib.run_to_unsafe w ⟨b, 0, none⟩ Tryz.underlying138 Tryz.underlying231 hj (by rw [hjs]; decide) hsh (Nat.zero_lt_succ 1)]
    simp only [Result.andThen]
    rw [Oper.upon_value]
    go_wp2_with fail
    rw [run_callFunc_extern Tryz.func167 (by kernel_rfl) (by kernel_rfl) (by kernel_rfl) (e := Extern.AbiNoEscape.same) (by kernel_rfl)]
    rw [Lib.run_noEscape]
    simp only [Result.andThen]
    rw [Oper.upon_value]
    go_wp2_with fail
    rw [Lib.run_from_unsafe w ⟨b, 0, none⟩ Tryz.underlying231 Tryz.underlying138 hj hsh bld_lies]
    simp only [Result.andThen]
    rw [Oper.upon_value]
    go_wp2_with fail
    go_end0
    exact ⟨rfl, hfin.1, hfin.2⟩
  · have c0 := h.cell0
    go_enter Tryz.func114, Tryz.ntmps114
    go_wp2_with fail
    rw [Lib.run_neq_ptr_same w _ Tryz.underlying138 hj]
    go_wp2_with fail
    go_end0
    exact ⟨rfl, h, Below.refl B _⟩
set_option maxHeartbeats 1000000 in
set_option maxRecDepth 100000 in
theorem bld_string (B b : Nat) (bs : List Value) (s : ByteArray) (w : World) (h : IsB B b bs w) (hlen : bs.length + s.size ≤ 140737488355328) (hBw : B ≤ w.heap.size) :
    Calls Tryz.prog 71 #[.pointer (some ⟨b, 0, none⟩), .string s] w fun e w' => e = .returned (.tuple #[.int .i64 s.size, .nilIface]) ∧ BAt B b (bs ++ Lib.strCells s) w' ∧ Below B w w' := by
  obtain ⟨i0, hi, hz0, hz1, hz2⟩ := info_parts bld_byte
  go_enter Tryz.func71, Tryz.ntmps71
  go_wp2_with fail
  refine (bld_check B b bs _ h).mono ?_
  rintro e w1 ⟨rfl, h1, hb1⟩
  obtain ⟨hB, v, hbk, hown, hne⟩ := h1
  have c0 : w1.cell? ⟨b, 0, none⟩ = some (.pointer (some ⟨b, 0, none⟩)) := by rw [Lib.cell_of_heap hbk]; rfl
  have c1 : w1.cell? ⟨b, 1, none⟩ = some v := by rw [Lib.cell_of_heap hbk]; rfl
  have hlt : b < w1.heap.size := (Array.getElem?_eq_some_iff.1 hbk).1
  have hs1 := hb1.size
  go_wp2_with (at_builtin; refine Lib.wpList_append_own_stringF _ rfl _ _ 29 9 rfl B 5 i0 Tryz.underlying29 Tryz.underlying9 hi hz0 hz1 hz2 _ _ _ rfl hown s rfl (by unfold maxLen; omega) (by omega) (by omega) ?_)
  intro v' w2 hown' hgrow _
  have hb2 : w2.heap[b]? = some (.cells #[.pointer (some ⟨b, 0, none⟩), v] 140 (0, 0)) := (hgrow.block b hlt (fun e => hne e.symm)).trans hbk
  have d0 : w2.cell? ⟨b, 0, none⟩ = some (.pointer (some ⟨b, 0, none⟩)) := by rw [Lib.cell_of_heap hb2]; rfl
  have d1 : w2.cell? ⟨b, 1, none⟩ = some v := by rw [Lib.cell_of_heap hb2]; rfl
  have f1 : w2.frozen? ⟨b, 1, none⟩ = false := Lib.frozen_of_heap hb2 1
  have hfin := Lib.BuilderAtF.put (T := 140) (e := 5) (v' := v') hB hb2 (bs' := bs ++ Lib.strCells s) (by simpa [Lib.strCells_length] using hown') (by decide)
  have hfin2 := (hb1.grown hgrow (by omega) (fun k hk => (hown.lt k hk).1)).setCell (p := ⟨b, 1, none⟩) hB v'
  obtain ⟨ao, n', cap, rfl⟩ : ∃ ao n' cap, v' = .slice ao n' cap := by
    rcases hown'.2 with ⟨hv, _⟩ | ⟨g, cap, cur, fz, hv, _⟩
    · exact ⟨_, _, _, hv⟩
    · exact ⟨_, _, _, hv⟩
  clear hgrow hown hown' hbk hb2 c0 c1
  go_wp2_with fail
  go_ret2
  exact ⟨rfl, hfin, hfin2⟩
set_option maxHeartbeats 1000000 in
set_option maxRecDepth 100000 in
theorem bld_byte1 (B b : Nat) (bs : List Value) (c : Int) (w : World) (h : IsB B b bs w) (hlen : bs.length + 1 ≤ 140737488355328) (hBw : B ≤ w.heap.size) :
    Calls Tryz.prog 117 #[.pointer (some ⟨b, 0, none⟩), .int .u8 c] w fun e w' => e = .returned .nilIface ∧ BAt B b (bs ++ [.int .u8 c]) w' ∧ Below B w w' := by
  obtain ⟨i0, hi, hz0, hz1, hz2⟩ := info_parts bld_byte
  go_enter Tryz.func117, Tryz.ntmps117
  go_wp2_with fail
  refine (bld_check B b bs _ h).mono ?_
  rintro e w1 ⟨rfl, h1, hb1⟩
  obtain ⟨hB, v, hbk, hown, hne⟩ := h1
  have c0 : w1.cell? ⟨b, 0, none⟩ = some (.pointer (some ⟨b, 0, none⟩)) := by rw [Lib.cell_of_heap hbk]; rfl
  have c1 : w1.cell? ⟨b, 1, none⟩ = some v := by rw [Lib.cell_of_heap hbk]; rfl
  have hlt : b < w1.heap.size := (Array.getElem?_eq_some_iff.1 hbk).1
  have hs1 := hb1.size
  go_wp2_with (at_builtin; refine wpList_append_ownF _ rfl _ _ 29 rfl B 5 i0 (.int .u8 0) 1 1 Tryz.underlying29 hi hz0 hz1 hz2 rfl (by decide) _ _ _ rfl (hown.alloc _) ⟨w1.heap.size, 0, none⟩ 1 1 [.int .u8 c] rfl rfl ?c1 ?c2 (by unfold maxLen; omega) (by omega) (by simp; omega) ?_)
  case c1 =>
    intro j u hj
    match j, hj with
    | 0, hj => simp at hj; subst hj; simp [Addr.add]
  case c2 => intro u hu; simp at hu; subst hu; rfl
  intro v' w2 hown' hgrow _
  have hb2 : w2.heap[b]? = some (.cells #[.pointer (some ⟨b, 0, none⟩), v] 140 (0, 0)) := ((hgrow.block b (by simp; omega) (fun e => hne e.symm)).trans (Lib.alloc_old w1 _ b hlt)).trans hbk
  have d0 : w2.cell? ⟨b, 0, none⟩ = some (.pointer (some ⟨b, 0, none⟩)) := by rw [Lib.cell_of_heap hb2]; rfl
  have d1 : w2.cell? ⟨b, 1, none⟩ = some v := by rw [Lib.cell_of_heap hb2]; rfl
  have f1 : w2.frozen? ⟨b, 1, none⟩ = false := Lib.frozen_of_heap hb2 1
  have hfin := Lib.BuilderAtF.put (T := 140) (e := 5) (v' := v') hB hb2 (bs' := bs ++ [.int .u8 c]) (by simpa using hown') (by decide)
  have hfin2 := ((hb1.alloc (by omega) _).grown hgrow (by simp; omega) (fun k hk => (hown.lt k hk).1)).setCell (p := ⟨b, 1, none⟩) hB v'
  obtain ⟨ao, n', cap, rfl⟩ : ∃ ao n' cap, v' = .slice ao n' cap := by
    rcases hown'.2 with ⟨hv, _⟩ | ⟨g, cap, cur, fz, hv, _⟩
    · exact ⟨_, _, _, hv⟩
    · exact ⟨_, _, _, hv⟩
  clear hgrow hown hown' hbk hb2 c0 c1
  go_wp2_with fail
  go_ret
  exact ⟨rfl, hfin, hfin2⟩
end Go.Proofs.YtjiaidchcldocaaGreatDoor
namespace Go.Proofs.YtjiaidchcldocaaGreatDoor

def markW : List UInt8 := [70, 114, 111, 109, 32, 45, 32, 10]
def sepW : List UInt8 := 10 :: markW
def boxText (l : List Mail) : List UInt8 := l.flatMap fun m => markW ++ (mailText m ++ [10])
def splitAll : Nat → List UInt8 → List (List UInt8)
  | 0, s => [s]
  | k + 1, s => match cutSub sepW s with
    | none => [s]
    | some (a, b) => a :: splitAll k b
/-- no newline of a text has the mark behind it -/
def Clean (t : List UInt8) : Prop := ∀ u v r, t = u ++ 10 :: v → markW.isPrefixOf (v ++ 10 :: r) = false
theorem clean_tail {c : UInt8} {t : List UInt8} (h : Clean (c :: t)) : Clean t := fun u v r e => h (c :: u) v r (by rw [e]; rfl)
theorem cut_clean (b : List UInt8) : ∀ {t : List UInt8}, Clean t → cutSub sepW (t ++ sepW ++ b) = some (t, b)
  | [], _ => by
    rw [List.nil_append]
    show cutSub sepW (10 :: (markW ++ b)) = _
    rw [cutSub, if_pos (by rw [List.isPrefixOf_iff_prefix]; exact ⟨b, rfl⟩)]
    show some ([], (sepW ++ b).drop sepW.length) = _
    rw [List.drop_left]
  | c :: t, h => by
    rw [List.cons_append, List.cons_append, cutSub, if_neg, cut_clean b (clean_tail h)]
    · rfl
    · intro q
      unfold sepW at q
      rw [List.isPrefixOf, Bool.and_eq_true] at q
      obtain ⟨q1, q2⟩ := q
      have q1 : c = 10 := (eq_of_beq q1).symm
      subst q1
      have := h [] t (markW ++ b) rfl
      rw [show t ++ 10 :: (markW ++ b) = t ++ 10 :: markW ++ b by simp] at this
      rw [q2] at this; cases this
theorem cut_last : ∀ {t : List UInt8}, Clean t → cutSub sepW (t ++ [10]) = none
  | [], _ => rfl
  | c :: t, h => by
    rw [List.cons_append, cutSub, if_neg, cut_last (t := t) (clean_tail h)]
    · rfl
    · intro q
      unfold sepW at q
      rw [List.isPrefixOf, Bool.and_eq_true] at q
      obtain ⟨q1, q2⟩ := q
      have q1 : c = 10 := (eq_of_beq q1).symm
      subst q1
      rw [h [] t [] rfl] at q2; cases q2
theorem clean_line {t : List UInt8} (ht : ∀ r, markW.isPrefixOf (t ++ 10 :: r) = false) (hc : Clean t) : ∀ {a : List UInt8}, (∀ c ∈ a, c ≠ 10) → Clean (a ++ [10] ++ t)
  | [], _, u, v, r, e => by
    cases u with
    | nil =>
      injection e with _ e
      rw [← e]; exact ht r
    | cons x u =>
      injection e with _ e
      exact hc u v r e
  | c :: a, h, u, v, r, e => by
    cases u with
    | nil =>
      injection e with e _
      exact absurd e (h c (List.mem_cons_self ..))
    | cons x u =>
      injection e with _ e
      exact clean_line ht hc (fun d hd => h d (List.mem_cons_of_mem _ hd)) u v r e
theorem mark_space (r : List UInt8) : ∀ (v : List UInt8), (∀ c ∈ v, c ≠ 32) → markW.isPrefixOf (v ++ 10 :: r) = false
  | [], _ => rfl
  | [a], _ => by simp [markW, List.isPrefixOf]
  | [a, b], _ => by simp [markW, List.isPrefixOf]
  | [a, b, c], _ => by simp [markW, List.isPrefixOf]
  | [a, b, c, d], _ => by simp [markW, List.isPrefixOf]
  | a :: b :: c :: d :: e :: v, h => by
    have he : e ≠ 32 := h e (by simp)
    have : (32 == e) = false := by simpa using fun q => he q.symm
    simp [markW, List.isPrefixOf, this]
theorem clean_space {t : List UInt8} (h : ∀ c ∈ t, c ≠ 32) : Clean t := fun u v r e => mark_space r v fun c hc => h c (by rw [e]; simp [hc])
theorem letter_sp : ∀ k, k < 64 → letterAt k ≠ 32 := by decide +kernel
theorem enc_sp : ∀ (k : Nat) (l : List UInt8) (n : Nat), l.length ≤ k → ∀ c ∈ encGo l n, c ≠ 32
  | _, [], n, _, c, hc => by rw [encGo] at hc; cases hc
  | 0, _ :: _, _, h, _, _ => by simp at h
  | k + 1, x :: r, n, h, c, hc => by
    rw [encGo] at hc
    rcases List.mem_append.1 hc with hc | hc
    · rcases List.mem_append.1 hc with hc | hc
      · unfold fourOf at hc
        obtain ⟨i, _, rfl⟩ := List.mem_map.1 hc
        split
        · decide
        · exact letter_sp _ (Nat.mod_lt _ (by decide))
      · split at hc
        · rw [List.mem_singleton.1 hc]; decide
        · cases hc
    · exact enc_sp k _ _ (by simp at h ⊢; omega) c hc
theorem mail_clean {m : Mail} (h : mailFault m = 0) : Clean (mailText m) := by
  unfold mailFault at h
  by_cases h1 : wordB m.sender.data.toList = false ∨ wordB m.subject.data.toList = false ∨ wordB m.ident.data.toList = false ∨ 60 ∈ m.ident.data.toList ∨ 62 ∈ m.ident.data.toList
  · rw [if_pos h1] at h; cases h
  · have w1 : wordB m.sender.data.toList = true := by
      cases e : wordB m.sender.data.toList with
      | true => rfl
      | false => exact absurd (.inl e) h1
    have w2 : wordB m.subject.data.toList = true := by
      cases e : wordB m.subject.data.toList with
      | true => rfl
      | false => exact absurd (.inr (.inl e)) h1
    have w3 : wordB m.ident.data.toList = true := by
      cases e : wordB m.ident.data.toList with
      | true => rfl
      | false => exact absurd (.inr (.inr (.inl e))) h1
    have join : ∀ {a b : List UInt8}, (∀ c ∈ a, c ≠ 10) → (∀ c ∈ b, c ≠ 10) → ∀ c ∈ a ++ b, c ≠ 10 := fun ha hb c hc => by
      rcases List.mem_append.1 hc with q | q
      · exact ha c q
      · exact hb c q
    have he : Clean (encL m.body) := clean_space (enc_sp _ _ _ (Nat.le_refl _))
    have h5 : Clean ([] ++ [10] ++ encL m.body) := clean_line (fun r => mark_space r _ (enc_sp _ _ _ (Nat.le_refl _))) he (by simp)
    have h4 : Clean (codW ++ [10] ++ ([] ++ [10] ++ encL m.body)) := clean_line (fun r => rfl) h5 (by decide)
    have h3 := clean_line (a := idW ++ (m.ident.data.toList ++ [62])) (fun r => rfl) h4 (join (by decide) (join (word_nl w3) (by decide)))
    have h2 := clean_line (a := subjW ++ m.subject.data.toList) (fun r => rfl) h3 (join (by decide) (word_nl w2))
    exact clean_line (a := fromW ++ m.sender.data.toList) (fun r => rfl) h2 (join (by decide) (word_nl w1))
def allM : List (List UInt8) → Option (List Mail)
  | [] => some []
  | s :: r => match parseM s with
    | none => none
    | some m => (allM r).map fun l => m :: l
def parseBox (s : List UInt8) : Option (List Mail) :=
  if s = [] then some [] else match dropPre markW s with
  | none => none
  | some r => if 16 < (splitAll r.length r).length then none else match dropSuf [10] ((splitAll r.length r).getLastD []) with
    | none => none
    | some y => allM ((splitAll r.length r).dropLast ++ [y])
def tailB (m : Mail) (l : List Mail) : List UInt8 := mailText m ++ [10] ++ boxText l
theorem box_cons (m : Mail) (l : List Mail) : boxText (m :: l) = markW ++ tailB m l := by
  show (markW ++ (mailText m ++ [10])) ++ boxText l = _
  unfold tailB
  simp
theorem split_box : ∀ (l : List Mail) (m : Mail) (k : Nat), l.length ≤ k → mailFault m = 0 → (∀ x ∈ l, mailFault x = 0) → ∃ a z, splitAll k (tailB m l) = a ++ [z ++ [10]] ∧ a ++ [z] = (m :: l).map mailText
  | [], m, k, _, hm, _ => by
    refine ⟨[], mailText m, ?_, rfl⟩
    have e : tailB m [] = mailText m ++ [10] := by unfold tailB boxText; simp
    rw [e]
    cases k with
    | zero => rfl
    | succ k => rw [splitAll, cut_last (mail_clean hm)]; rfl
  | x :: l, m, k, hk, hm, hl => by
    obtain ⟨k, rfl⟩ : ∃ j, k = j + 1 := ⟨k - 1, by simp at hk; omega⟩
    obtain ⟨a, z, h1, h2⟩ := split_box l x k (by simpa using hk) (hl x (List.mem_cons_self ..)) fun y hy => hl y (List.mem_cons_of_mem _ hy)
    refine ⟨mailText m :: a, z, ?_, by rw [List.cons_append, h2]; rfl⟩
    have e : tailB m (x :: l) = mailText m ++ sepW ++ tailB x l := by
      show mailText m ++ [10] ++ boxText (x :: l) = _
      rw [box_cons]
      unfold sepW
      simp
    rw [e, splitAll, cut_clean _ (mail_clean hm)]
    simp only
    rw [h1]; rfl
theorem all_back : ∀ (l : List Mail), (∀ x ∈ l, mailFault x = 0) → allM (l.map mailText) = some l
  | [], _ => rfl
  | m :: l, h => by
    rw [List.map_cons, allM, mail_back (h m (List.mem_cons_self ..))]
    simp only
    rw [all_back l fun x hx => h x (List.mem_cons_of_mem _ hx)]; rfl
theorem box_len : ∀ (l : List Mail), l.length ≤ (boxText l).length
  | [] => Nat.le_refl _
  | m :: l => by
    rw [box_cons]
    unfold tailB markW
    have := box_len l
    simp only [List.length_append, List.length_cons, List.length_nil]
    omega
/-- what is boxed is opened -/
theorem box_back {l : List Mail} (hl : l.length ≤ 16) (h : ∀ x ∈ l, mailFault x = 0) : parseBox (boxText l) = some l := by
  cases l with
  | nil => rfl
  | cons m l =>
    have hk : l.length ≤ (tailB m l).length := by
      have := box_len l
      unfold tailB
      simp only [List.length_append, List.length_cons, List.length_nil]
      omega
    obtain ⟨a, z, h1, h2⟩ := split_box l m _ hk (h m (List.mem_cons_self ..)) fun y hy => h y (List.mem_cons_of_mem _ hy)
    have hlen : (a ++ [z ++ [10]]).length = (m :: l).length := by
      have := congrArg List.length h2
      rw [List.length_map] at this
      rw [← this]
      simp
    rw [box_cons]
    unfold parseBox
    rw [if_neg (by unfold markW; simp), pre_app]
    simp only
    rw [h1, if_neg (by omega), List.getLastD_concat, suf_app, List.dropLast_concat]
    simp only
    rw [h2, all_back _ h]
theorem box_app (l k : List Mail) : boxText (l ++ k) = boxText l ++ boxText k := List.flatMap_append ..
end Go.Proofs.YtjiaidchcldocaaGreatDoor
namespace Go.Proofs.YtjiaidchcldocaaGreatDoor

/-- cut so many times at most -/
def cutsK (t : List UInt8) : Nat → List UInt8 → List (List UInt8)
  | 0, s => [s]
  | k + 1, s => match cutSub t s with
    | none => [s]
    | some (a, b) => a :: cutsK t k b
theorem splitK_cuts {t : List UInt8} (ht : t ≠ []) : ∀ (k : Nat) (s : List UInt8), Lib.splitK t 0 k s = cutsK t k s
  | 0, s => rfl
  | k + 1, s => by
    have h := cut_index ht s
    rw [Lib.splitK, cutsK]
    cases hc : cutSub t s with
    | none =>
      rw [hc] at h
      rw [if_pos (by rw [h]; rfl)]
    | some p =>
      rw [hc] at h
      obtain ⟨h1, h2, h3⟩ := h
      rw [if_neg (by rw [h1]; simp), h1]
      simp only [Int.toNat_natCast, Nat.add_zero]
      rw [← h2, ← h3, splitK_cuts ht k p.2]
theorem splitN_cuts : ∀ (k : Nat) (s : List UInt8), splitN k s = cutsK [10] k s
  | 0, s => rfl
  | k + 1, s => by
    rw [splitN, cutsK]
    cases cutSub [10] s with
    | none => rfl
    | some p => simp only; rw [splitN_cuts k p.2]
theorem splitAll_cuts : ∀ (k : Nat) (s : List UInt8), splitAll k s = cutsK sepW k s
  | 0, s => rfl
  | k + 1, s => by
    rw [splitAll, cutsK]
    cases cutSub sepW s with
    | none => rfl
    | some p => simp only; rw [splitAll_cuts k p.2]
theorem cut_shorter {t s : List UInt8} {p : List UInt8 × List UInt8} (ht : t ≠ []) (h : cutSub t s = some p) : p.2.length < s.length := by
  have := cut_some (a := p.1) (b := p.2) h
  have hl := congrArg List.length this
  simp only [List.length_append] at hl
  have := List.length_pos_iff.2 ht
  omega
/-- so many cuts are enough -/
theorem cuts_enough {t : List UInt8} (ht : t ≠ []) : ∀ (n k j : Nat) (s : List UInt8), s.length ≤ n → Lib.count s t ≤ k → Lib.count s t ≤ j → cutsK t k s = cutsK t j s
  | n, k, j, s, hn, hk, hj => by
    have h := cut_index ht s
    cases hc : cutSub t s with
    | none =>
      match k, j with
      | 0, 0 => rfl
      | 0, j + 1 => rw [cutsK, cutsK, hc]
      | k + 1, 0 => rw [cutsK, cutsK, hc]
      | k + 1, j + 1 => rw [cutsK, cutsK, hc]
    | some p =>
      rw [hc] at h
      obtain ⟨h1, h2, h3⟩ := h
      have hcnt := Lib.count_hit ht h1
      rw [← h3] at hcnt
      have hsh := cut_shorter ht hc
      match n, k, j, hn, hk, hj with
      | 0, _, _, hn, _, _ => omega
      | n + 1, 0, _, _, hk, _ => omega
      | n + 1, k + 1, 0, _, _, hj => omega
      | n + 1, k + 1, j + 1, hn, hk, hj =>
        rw [cutsK, cutsK, hc]
        simp only
        rw [cuts_enough ht n k j p.2 (by omega) (by omega) (by omega)]
theorem count_len {t : List UInt8} (ht : t ≠ []) : ∀ (n : Nat) (s : List UInt8), s.length ≤ n → Lib.count s t ≤ s.length
  | n, s, hn => by
    have h := cut_index ht s
    cases hc : cutSub t s with
    | none => rw [hc] at h; rw [Lib.count_miss h]; exact Nat.zero_le _
    | some p =>
      rw [hc] at h
      obtain ⟨h1, h2, h3⟩ := h
      have hcnt := Lib.count_hit ht h1
      rw [← h3] at hcnt
      have hsh := cut_shorter ht hc
      match n, hn with
      | 0, hn => omega
      | n + 1, hn =>
        have := count_len ht n p.2 (by omega)
        omega
/-- strings.SplitN(s, "\n", 6) -/
theorem splitN_6 (s : List UInt8) : Lib.splitK [10] 0 (min 6 (s.length + 1) - 1) s = splitN 5 s := by
  rw [splitK_cuts (by simp), splitN_cuts]
  by_cases h : 5 ≤ s.length
  · rw [show min 6 (s.length + 1) - 1 = 5 by omega]
  · have hc := count_len (t := [10]) (by simp) s.length s (Nat.le_refl _)
    exact cuts_enough (by simp) s.length _ _ s (Nat.le_refl _) (by omega) (by omega)
/-- strings.Split(s, "\nFrom - \n") -/
theorem split_sep (s : List UInt8) : Lib.splitK sepW 0 (Lib.count s sepW) s = splitAll s.length s := by
  rw [splitK_cuts (by decide), splitAll_cuts]
  exact cuts_enough (by decide) s.length _ _ s (Nat.le_refl _) (Nat.le_refl _) (count_len (by decide) s.length s (Nat.le_refl _))
end Go.Proofs.YtjiaidchcldocaaGreatDoor
namespace Go.Proofs.YtjiaidchcldocaaGreatDoor
open Go.RowKit
theorem str_ne_empty {s : ByteArray} (h : s ≠ ByteArray.empty) : ∃ b c, s.data.toList = b ++ [c] := by
  have hne : s.data.toList ≠ [] := by
    intro e
    apply h
    apply ByteArray.ext
    apply Array.toList_inj.1
    rw [e]; rfl
  exact ⟨s.data.toList.dropLast, s.data.toList.getLast hne, (List.dropLast_concat_getLast hne).symm⟩
end Go.Proofs.YtjiaidchcldocaaGreatDoor
namespace Go.Proofs.YtjiaidchcldocaaGreatDoor

/-- neighbours -/
def nextsOf : List (List File) → List (List File × List File)
  | a :: b :: r => (a, b) :: nextsOf (b :: r)
  | _ => []
theorem nexts_len : ∀ t : List (List File), (nextsOf t).length = t.length - 1
  | [] => rfl
  | [_] => rfl
  | a :: b :: r => by rw [nextsOf, List.length_cons, nexts_len (b :: r)]; simp
theorem nexts_get : ∀ {t : List (List File)} {k : Nat} {a b : List File}, t[k]? = some a → t[k + 1]? = some b → (nextsOf t)[k]? = some (a, b)
  | [], _, _, _, h, _ => by simp at h
  | [_], 0, _, _, _, h => by simp at h
  | [_], k + 1, _, _, h, _ => by simp at h
  | x :: y :: r, 0, a, b, h, g => by
    simp at h g
    subst h; subst g; rfl
  | x :: y :: r, k + 1, a, b, h, g => by
    rw [nextsOf, List.getElem?_cons_succ]
    exact nexts_get (by simpa using h) (by simpa using g)
/-- the trees that are looked at -/
def foundF (n : Int) (t : List (List File)) : Int := firstOf (fun x => diffFault x.1 x.2 n) (nextsOf (t.take 6))
def foundL (n : Int) (t : List (List File)) : List (List Change) := (nextsOf (t.take 6)).map fun x => diffL n x.1 x.2
def foundR (n : Int) (t : List (List File)) : List (List Change) := if foundF n t = 0 then foundL n t else []
def lastOf (t : List (List File)) : List File := t.getD (if 5 < t.length - 1 then 5 else t.length - 1) []
theorem found_len (n : Int) (t : List (List File)) : (foundL n t).length = min t.length 6 - 1 := by
  unfold foundL
  rw [List.length_map, nexts_len, List.length_take, Nat.min_comm]
theorem found_get {n : Int} {t : List (List File)} {k : Nat} {a b : List File} (ha : t[k]? = some a) (hb : t[k + 1]? = some b) (hk : k + 1 < 6) : (nextsOf (t.take 6))[k]? = some (a, b) ∧ (foundL n t)[k]? = some (diffL n a b) := by
  have h := nexts_get (t := t.take 6) (k := k) (a := a) (b := b) (by rw [List.getElem?_take, if_pos (by omega)]; exact ha) (by rw [List.getElem?_take, if_pos (by omega)]; exact hb)
  exact ⟨h, by unfold foundL; rw [List.getElem?_map, h]; rfl⟩
theorem found_zero {n : Int} {t : List (List File)} (h : foundF n t = 0) {k : Nat} {a b : List File} (ha : t[k]? = some a) (hb : t[k + 1]? = some b) (hk : k + 1 < 6) : diffFault a b n = 0 := by
  unfold foundF at h
  rw [firstOf_zero] at h
  exact h (a, b) (List.mem_of_getElem? (found_get (n := n) ha hb hk).1)
theorem runGo_app : ∀ (p : List (List Change)) (t x : List File) (q : List (List Change)), runGoS t p = (x, 0) → runGoS t (p ++ q) = runGoS x q
  | [], t, x, q, h => by rw [runGoS] at h; injection h with h; subst h; rfl
  | c :: r, t, x, q, h => by
    rw [runGoS] at h
    by_cases z : (applyR t c).2.2 = 0
    · rw [if_pos z] at h
      rw [List.cons_append, runGoS, if_pos z]
      exact runGo_app r _ x q h
    · rw [if_neg z] at h
      injection h with _ h
      exact absurd h z
end Go.Proofs.YtjiaidchcldocaaGreatDoor
