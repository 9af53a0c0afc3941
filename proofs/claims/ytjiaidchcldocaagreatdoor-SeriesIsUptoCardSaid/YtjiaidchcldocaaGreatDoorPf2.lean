/-
  PARTS: THE WALKS of mail.word and of the document's word; a mail as cells.; THE WALKS of mail.Check, Print, field; of the document's Find, Starts, Ends, MailFault, MailText.; HOW ARGUMENTS READ: mails.; A SLICE THAT THE CALL ITSELF BUILDS BY append ('Own'): kept, pushed onto, read. No program in sight.; MORE ON SLICES THAT append HAS BUILT.; THE WALKS of strings.Builder's methods at a builder of one's own: copyCheck, WriteString, WriteByte.; THE WALK of the document's Parts (a text of its own: no function of layers 1 to 9 in it).; THE LAWS OF THE DISTANCE AND OF THE SCRIPT, in plain Lean (chapter 2, E2): symmetric, a triangle, 0 just of the same, attained by the script, no script is shorter.; THE WALKS OF LAYER 2: checked, measure, Far.; THE WALKS OF LAYER 2 over scripts: Check, those, Old, New; the laws' changes and Marks.; THE WALKS: edit.Old, edit.New; the laws' Marks.; THE WALK of edit.Script.; THE WALKS OF LAYER 3: kept, changed, Size, ContainsFunc, one.; THE WALKS OF LAYER 3: one, Check.; THE WALKS OF LAYER 3: Check.; THE WALKS: the laws' Hunk, Hunks.; PIECES OF A SCRIPT, in plain Lean (chapter 3, H2): what Cut answers.
-/
import Derived.Test.YtjiaidchcldocaaGreatDoorPf1
import Derived.Lib.SmallJoins
import Derived.Shelf.Strings.BuilderK
import Derived.StillTailTactics
import Derived.Laws.StructEq
set_option linter.unusedVariables false
set_option linter.unusedSimpArgs false
namespace Go.Proofs.YtjiaidchcldocaaGreatDoor
open Go.RowKit

theorem elems_mail {w : World} {O : Nat → Prop} {a : Option Addr} {l : List Mail} (h : Elems w O a l) {i : Nat} {x : Mail} (hx : l[i]? = some x) :
    ∃ b off v, a = some ⟨b, off, none⟩ ∧ ¬ O b ∧ b < w.heap.size ∧ w.cell? ⟨b, off + i * 4, none⟩ = some (.string x.sender) ∧ w.cell? ⟨b, off + i * 4 + 1, none⟩ = some (.string x.subject) ∧ w.cell? ⟨b, off + i * 4 + 2, none⟩ = some (.string x.ident) ∧ w.cell? ⟨b, off + i * 4 + 3, none⟩ = some v ∧ x.sender.size ≤ maxLen ∧ x.subject.size ≤ maxLen ∧ x.ident.size ≤ maxLen ∧ Rdv w O v x.body := by
  obtain ⟨b, off, es, ha, hb, hcs, v, rfl, s1, s2, s3, hv⟩ := h i x hx
  refine ⟨b, off, v, ha, hb, hcs.lt (by simp), ?_, ?_, ?_, ?_, s1, s2, s3, hv⟩
  · simpa [Dat.n] using hcs 0 _ rfl
  · simpa [Dat.n] using hcs 1 _ rfl
  · simpa [Dat.n] using hcs 2 _ rfl
  · simpa [Dat.n] using hcs 3 _ rfl
def okChar (c : UInt8) : Bool := decide (32 ≤ c.toNat) && decide (c.toNat ≤ 126)
theorem wordB_eq (s : List UInt8) : wordB s = (!(s == []) && decide (s.length ≤ 40) && s.all okChar) := rfl

set_option maxHeartbeats 1000000 in
set_option maxRecDepth 100000 in
theorem mail_word_any (s : ByteArray) (w : World) (hs : s.size ≤ maxLen) :
    Calls Tryz.prog 148 #[.string s] w fun e w' => e = .returned (.bool (wordB s.data.toList)) ∧ w = w' := by
  unfold maxLen at hs
  by_cases h0 : s.size = 0
  · have e0 : s.data.toList = [] := List.eq_nil_of_length_eq_zero (by rw [← Lib.size_eq]; exact h0)
    have HW : Hid (wordB s.data.toList = false) := by rw [Hid, e0]; rfl
    have te : s.toList.isEmpty = true := by rw [Lib.toList_data, e0]; rfl
    clear e0
    have tl : decide ((s.size : Int) < 1) = true := decide_eq_true (by omega)
    go_enter Tryz.func148, Tryz.ntmps148
    go_wp2_with fail
    go_ret
    exact ⟨by rw [HW.out]; rfl, rfl⟩
  · by_cases h40 : 40 < s.size
    · have HW : Hid (wordB s.data.toList = false) := by
        rw [Hid, wordB_eq, decide_eq_false (by rw [← Lib.size_eq]; omega : ¬ s.data.toList.length ≤ 40)]; simp
      have te : s.toList.isEmpty = false := by
        rw [Lib.toList_data]
        cases e : s.data.toList.isEmpty with
        | false => rfl
        | true => exact absurd (by rw [Lib.size_eq, List.isEmpty_iff.1 e]; rfl) h0
      have tl : decide ((s.size : Int) < 1) = false := decide_eq_false (by omega)
      have t4 : decide ((40 : Int) < (s.size : Int)) = true := decide_eq_true (by omega)
      go_enter Tryz.func148, Tryz.ntmps148
      go_wp2_with fail
      go_ret
      exact ⟨by rw [HW.out]; rfl, rfl⟩
    · have HW : Hid (wordB s.data.toList = s.data.toList.all okChar) := by
        rw [Hid, wordB_eq, decide_eq_true (by rw [← Lib.size_eq]; omega : s.data.toList.length ≤ 40)]
        have : (s.data.toList == []) = false := by
          simp only [beq_eq_false_iff_ne, ne_eq]
          intro e
          exact h0 (by rw [Lib.size_eq, e]; rfl)
        rw [this]; simp
      have te : s.toList.isEmpty = false := by
        rw [Lib.toList_data]
        cases e : s.data.toList.isEmpty with
        | false => rfl
        | true => exact absurd (by rw [Lib.size_eq, List.isEmpty_iff.1 e]; rfl) h0
      have tl : decide ((s.size : Int) < 1) = false := decide_eq_false (by omega)
      have t4 : decide ((40 : Int) < (s.size : Int)) = false := decide_eq_false (by omega)
      go_enter Tryz.func148, Tryz.ntmps148
      go_wp2_with fail
      go_loop [13] (fun i => ∃ k : Nat, k ≤ s.size ∧ i = .int .i64 k ∧ Hid ((s.data.toList.drop k).all okChar = s.data.toList.all okChar)) (fun i => s.size - (intOf i).toNat)
      case atStart => exact ⟨0, Nat.zero_le _, rfl, rfl⟩
      case round =>
        obtain ⟨k, hk, rfl, hf⟩ := hrel
        by_cases hlt : k < s.size
        · have hd : Hid (s.data.toList.drop k = s[k] :: s.data.toList.drop (k + 1)) := by
            rw [Hid]
            exact drop_eq (by rw [Array.getElem?_toList, Array.getElem?_eq_getElem hlt]; rfl)
          obtain ⟨c, hc⟩ : ∃ c, s[k] = c := ⟨_, rfl⟩
          rw [hc] at hd
          by_cases b1 : c.toNat < 32
          · have HF : Hid (s.data.toList.all okChar = false) := by
              rw [Hid, ← hf.out, hd.out, List.all_cons, okChar, decide_eq_false (by omega : ¬ 32 ≤ c.toNat)]; rfl
            have u1 : decide ((c.toNat : Int) < 32) = true := decide_eq_true (by omega)
            clear hf hd b1
            go_wp2_with fail
            go_ret
            exact ⟨by rw [HW.out, HF.out]; rfl, rfl⟩
          · by_cases b2 : 126 < c.toNat
            · have HF : Hid (s.data.toList.all okChar = false) := by
                rw [Hid, ← hf.out, hd.out, List.all_cons, okChar, decide_eq_false (by omega : ¬ c.toNat ≤ 126), Bool.and_false]; rfl
              have u1 : decide ((c.toNat : Int) < 32) = false := decide_eq_false (by omega)
              have u2 : decide ((126 : Int) < (c.toNat : Int)) = true := decide_eq_true (by omega)
              clear hf hd b1 b2
              go_wp2_with fail
              go_ret
              exact ⟨by rw [HW.out, HF.out]; rfl, rfl⟩
            · have HF : Hid ((s.data.toList.drop (k + 1)).all okChar = s.data.toList.all okChar) := by
                rw [Hid, ← hf.out, hd.out, List.all_cons, okChar, decide_eq_true (by omega : 32 ≤ c.toNat), decide_eq_true (by omega : c.toNat ≤ 126)]; rfl
              have u1 : decide ((c.toNat : Int) < 32) = false := decide_eq_false (by omega)
              have u2 : decide ((126 : Int) < (c.toNat : Int)) = false := decide_eq_false (by omega)
              clear hf hd b1 b2
              go_wp2_with fail
              go_round
              case rel => exact ⟨k + 1, by omega, by go_num, HF.out⟩
              case measure => simp [intOf]; omega
        · have HF : Hid (s.data.toList.all okChar = true) := by
            rw [Hid, ← hf.out, List.drop_of_length_le (by rw [← Lib.size_eq]; omega)]; rfl
          go_wp2_with fail
          go_ret
          exact ⟨by rw [HW.out, HF.out]; rfl, rfl⟩
set_option maxHeartbeats 1000000 in
set_option maxRecDepth 100000 in
theorem ref_word_any (s : ByteArray) (w : World) (hs : s.size ≤ maxLen) :
    Calls Tryz.prog 48 #[.string s, .int .i64 40] w fun e w' => e = .returned (.bool (wordB s.data.toList)) ∧ w = w' := by
  unfold maxLen at hs
  by_cases h0 : s.size = 0
  · have e0 : s.data.toList = [] := List.eq_nil_of_length_eq_zero (by rw [← Lib.size_eq]; exact h0)
    have HW : Hid (wordB s.data.toList = false) := by rw [Hid, e0]; rfl
    have te : s.toList.isEmpty = true := by rw [Lib.toList_data, e0]; rfl
    clear e0
    have tl : decide ((s.size : Int) < 1) = true := decide_eq_true (by omega)
    go_enter Tryz.func48, Tryz.ntmps48
    go_wp2_with fail
    go_ret
    exact ⟨by rw [HW.out]; rfl, rfl⟩
  · by_cases h40 : 40 < s.size
    · have HW : Hid (wordB s.data.toList = false) := by
        rw [Hid, wordB_eq, decide_eq_false (by rw [← Lib.size_eq]; omega : ¬ s.data.toList.length ≤ 40)]; simp
      have te : s.toList.isEmpty = false := by
        rw [Lib.toList_data]
        cases e : s.data.toList.isEmpty with
        | false => rfl
        | true => exact absurd (by rw [Lib.size_eq, List.isEmpty_iff.1 e]; rfl) h0
      have tl : decide ((s.size : Int) < 1) = false := decide_eq_false (by omega)
      have t4 : decide ((40 : Int) < (s.size : Int)) = true := decide_eq_true (by omega)
      go_enter Tryz.func48, Tryz.ntmps48
      go_wp2_with fail
      go_ret
      exact ⟨by rw [HW.out]; rfl, rfl⟩
    · have HW : Hid (wordB s.data.toList = s.data.toList.all okChar) := by
        rw [Hid, wordB_eq, decide_eq_true (by rw [← Lib.size_eq]; omega : s.data.toList.length ≤ 40)]
        have : (s.data.toList == []) = false := by
          simp only [beq_eq_false_iff_ne, ne_eq]
          intro e
          exact h0 (by rw [Lib.size_eq, e]; rfl)
        rw [this]; simp
      have te : s.toList.isEmpty = false := by
        rw [Lib.toList_data]
        cases e : s.data.toList.isEmpty with
        | false => rfl
        | true => exact absurd (by rw [Lib.size_eq, List.isEmpty_iff.1 e]; rfl) h0
      have tl : decide ((s.size : Int) < 1) = false := decide_eq_false (by omega)
      have t4 : decide ((40 : Int) < (s.size : Int)) = false := decide_eq_false (by omega)
      go_enter Tryz.func48, Tryz.ntmps48
      go_wp2_with fail
      go_loop [5] (fun i => ∃ k : Nat, k ≤ s.size ∧ i = .int .i64 k ∧ Hid ((s.data.toList.drop k).all okChar = s.data.toList.all okChar)) (fun i => s.size - (intOf i).toNat)
      case atStart => exact ⟨0, Nat.zero_le _, rfl, rfl⟩
      case round =>
        obtain ⟨k, hk, rfl, hf⟩ := hrel
        by_cases hlt : k < s.size
        · have hd : Hid (s.data.toList.drop k = s[k] :: s.data.toList.drop (k + 1)) := by
            rw [Hid]
            exact drop_eq (by rw [Array.getElem?_toList, Array.getElem?_eq_getElem hlt]; rfl)
          obtain ⟨c, hc⟩ : ∃ c, s[k] = c := ⟨_, rfl⟩
          rw [hc] at hd
          by_cases b1 : c.toNat < 32
          · have HF : Hid (s.data.toList.all okChar = false) := by
              rw [Hid, ← hf.out, hd.out, List.all_cons, okChar, decide_eq_false (by omega : ¬ 32 ≤ c.toNat)]; rfl
            have u1 : decide ((c.toNat : Int) < 32) = true := decide_eq_true (by omega)
            clear hf hd b1
            go_wp2_with fail
            go_ret
            exact ⟨by rw [HW.out, HF.out]; rfl, rfl⟩
          · by_cases b2 : 126 < c.toNat
            · have HF : Hid (s.data.toList.all okChar = false) := by
                rw [Hid, ← hf.out, hd.out, List.all_cons, okChar, decide_eq_false (by omega : ¬ c.toNat ≤ 126), Bool.and_false]; rfl
              have u1 : decide ((c.toNat : Int) < 32) = false := decide_eq_false (by omega)
              have u2 : decide ((126 : Int) < (c.toNat : Int)) = true := decide_eq_true (by omega)
              clear hf hd b1 b2
              go_wp2_with fail
              go_ret
              exact ⟨by rw [HW.out, HF.out]; rfl, rfl⟩
            · have HF : Hid ((s.data.toList.drop (k + 1)).all okChar = s.data.toList.all okChar) := by
                rw [Hid, ← hf.out, hd.out, List.all_cons, okChar, decide_eq_true (by omega : 32 ≤ c.toNat), decide_eq_true (by omega : c.toNat ≤ 126)]; rfl
              have u1 : decide ((c.toNat : Int) < 32) = false := decide_eq_false (by omega)
              have u2 : decide ((126 : Int) < (c.toNat : Int)) = false := decide_eq_false (by omega)
              clear hf hd b1 b2
              go_wp2_with fail
              go_round
              case rel => exact ⟨k + 1, by omega, by go_num, HF.out⟩
              case measure => simp [intOf]; omega
        · have HF : Hid (s.data.toList.all okChar = true) := by
            rw [Hid, ← hf.out, List.drop_of_length_le (by rw [← Lib.size_eq]; omega)]; rfl
          go_wp2_with fail
          go_ret
          exact ⟨by rw [HW.out, HF.out]; rfl, rfl⟩
end Go.Proofs.YtjiaidchcldocaaGreatDoor
namespace Go.Proofs.YtjiaidchcldocaaGreatDoor
open Go.RowKit

theorem box1_mail (w : World) (T : TypeId) (a b c : ByteArray) (v : Value) (W : World) (hW : W = w.alloc (.cells #[.string a, .string b, .string c, v] T)) :
    Chg Never w W ∧ W.cell? ⟨w.heap.size, 0, none⟩ = some (.string a) ∧ W.cell? ⟨w.heap.size, 1, none⟩ = some (.string b) ∧ W.cell? ⟨w.heap.size, 2, none⟩ = some (.string c) ∧ W.cell? ⟨w.heap.size, 3, none⟩ = some v := by
  subst hW
  have n := heap_alloc_new w (.cells #[.string a, .string b, .string c, v] T)
  refine ⟨(Chg.refl Never w).alloc _, ?_, ?_, ?_, ?_⟩ <;> (simp only [World.cell?]; rw [n]; rfl)
abbrev mailV (m : Mail) (v : Value) : Value := .agg #[.string m.sender, .string m.subject, .string m.ident, v]
def MailSz (m : Mail) : Prop := m.sender.size ≤ maxLen ∧ m.subject.size ≤ maxLen ∧ m.ident.size ≤ maxLen
theorem mf_word1 {m : Mail} (h : wordB m.sender.data.toList = false) : mailFault m = 5 := if_pos (.inl h)
theorem mf_word2 {m : Mail} (h : wordB m.subject.data.toList = false) : mailFault m = 5 := if_pos (.inr (.inl h))
theorem mf_word3 {m : Mail} (h : wordB m.ident.data.toList = false) : mailFault m = 5 := if_pos (.inr (.inr (.inl h)))
theorem mf_lt {m : Mail} (h : 60 ∈ m.ident.data.toList) : mailFault m = 5 := if_pos (.inr (.inr (.inr (.inl h))))
theorem mf_gt {m : Mail} (h : 62 ∈ m.ident.data.toList) : mailFault m = 5 := if_pos (.inr (.inr (.inr (.inr h))))
theorem mf_rest {m : Mail} (h1 : wordB m.sender.data.toList = true) (h2 : wordB m.subject.data.toList = true) (h3 : wordB m.ident.data.toList = true) (h4 : 60 ∉ m.ident.data.toList) (h5 : 62 ∉ m.ident.data.toList) : mailFault m = if 40000 < m.body.length then 3 else 0 := by
  unfold mailFault
  rw [if_neg (by rw [h1, h2, h3]; simp [h4, h5])]

set_option maxHeartbeats 2000000 in
set_option maxRecDepth 100000 in
theorem mail_check_any (m : Mail) (v : Value) (w : World) (h : Rdv w Never v m.body) (hsz : MailSz m) :
    Calls Tryz.prog 97 #[mailV m v] w fun e w' => e = .returned (errV (mailFault m)) ∧ Chg Never w w' := by
  obtain ⟨a, cap, rfl, h1, h2, _⟩ := rdv_slice h
  unfold maxLen at h2
  obtain ⟨z1, z2, z3⟩ := hsz
  obtain ⟨hA, b0, b1, b2, b3⟩ := box1_mail w 31 m.sender m.subject m.ident (.slice a m.body.length cap) _ rfl
  cases w1 : wordB m.sender.data.toList with
  | false =>
    have HF := Lib.hid (mf_word1 w1)
    go_enter Tryz.func97, Tryz.ntmps97
    go_wp2_with (first | (go_at_call 148; refine (mail_word_any _ _ (by assumption)).mono ?_; rintro e w' ⟨rfl, rfl⟩) | (go_at_call 149; refine (Tryz.strings_Contains_one _ _ _).mono ?_; rintro e w' ⟨rfl, rfl⟩))
    go_ret
    exact ⟨by rw [HF.out]; rfl, hA⟩
  | true =>
    cases w2 : wordB m.subject.data.toList with
    | false =>
      have HF := Lib.hid (mf_word2 w2)
      go_enter Tryz.func97, Tryz.ntmps97
      go_wp2_with (first | (go_at_call 148; refine (mail_word_any _ _ (by assumption)).mono ?_; rintro e w' ⟨rfl, rfl⟩) | (go_at_call 149; refine (Tryz.strings_Contains_one _ _ _).mono ?_; rintro e w' ⟨rfl, rfl⟩))
      go_ret
      exact ⟨by rw [HF.out]; rfl, hA⟩
    | true =>
      cases w3 : wordB m.ident.data.toList with
      | false =>
        have HF := Lib.hid (mf_word3 w3)
        go_enter Tryz.func97, Tryz.ntmps97
        go_wp2_with (first | (go_at_call 148; refine (mail_word_any _ _ (by assumption)).mono ?_; rintro e w' ⟨rfl, rfl⟩) | (go_at_call 149; refine (Tryz.strings_Contains_one _ _ _).mono ?_; rintro e w' ⟨rfl, rfl⟩))
        go_ret
        exact ⟨by rw [HF.out]; rfl, hA⟩
      | true =>
        by_cases c1 : 60 ∈ m.ident.data.toList
        · have t1 : decide (0 ≤ Lib.indexByte m.ident.data.toList 60) = true := by rw [indexByte_nonneg]; simpa using c1
          have HF := Lib.hid (mf_lt c1)
          clear c1
          go_enter Tryz.func97, Tryz.ntmps97
          go_wp2_with (first | (go_at_call 148; refine (mail_word_any _ _ (by assumption)).mono ?_; rintro e w' ⟨rfl, rfl⟩) | (go_at_call 149; refine (Tryz.strings_Contains_one _ _ _).mono ?_; rintro e w' ⟨rfl, rfl⟩))
          go_ret
          exact ⟨by rw [HF.out]; rfl, hA⟩
        · have t1 : decide (0 ≤ Lib.indexByte m.ident.data.toList 60) = false := by rw [indexByte_nonneg]; simpa using c1
          by_cases c2 : 62 ∈ m.ident.data.toList
          · have t2 : decide (0 ≤ Lib.indexByte m.ident.data.toList 62) = true := by rw [indexByte_nonneg]; simpa using c2
            have HF := Lib.hid (mf_gt c2)
            clear c1 c2
            go_enter Tryz.func97, Tryz.ntmps97
            go_wp2_with (first | (go_at_call 148; refine (mail_word_any _ _ (by assumption)).mono ?_; rintro e w' ⟨rfl, rfl⟩) | (go_at_call 149; refine (Tryz.strings_Contains_one _ _ _).mono ?_; rintro e w' ⟨rfl, rfl⟩))
            go_ret
            exact ⟨by rw [HF.out]; rfl, hA⟩
          · have t2 : decide (0 ≤ Lib.indexByte m.ident.data.toList 62) = false := by rw [indexByte_nonneg]; simpa using c2
            have HR := Lib.hid (mf_rest w1 w2 w3 c1 c2)
            clear c1 c2
            by_cases hb : 40000 < m.body.length
            · have HF : Hid (mailFault m = 3) := by rw [Hid, HR.out, if_pos hb]
              go_enter Tryz.func97, Tryz.ntmps97
              go_wp2_with (first | (go_at_call 148; refine (mail_word_any _ _ (by assumption)).mono ?_; rintro e w' ⟨rfl, rfl⟩) | (go_at_call 149; refine (Tryz.strings_Contains_one _ _ _).mono ?_; rintro e w' ⟨rfl, rfl⟩))
              go_ret
              exact ⟨by rw [HF.out]; rfl, hA⟩
            · have HF : Hid (mailFault m = 0) := by rw [Hid, HR.out, if_neg hb]
              go_enter Tryz.func97, Tryz.ntmps97
              go_wp2_with (first | (go_at_call 148; refine (mail_word_any _ _ (by assumption)).mono ?_; rintro e w' ⟨rfl, rfl⟩) | (go_at_call 149; refine (Tryz.strings_Contains_one _ _ _).mono ?_; rintro e w' ⟨rfl, rfl⟩))
              go_ret
              exact ⟨by rw [HF.out]; rfl, hA⟩
end Go.Proofs.YtjiaidchcldocaaGreatDoor
namespace Go.Proofs.YtjiaidchcldocaaGreatDoor
open Go.ChangeShapes Go.WideShapes Go.ChangeAt Go.RowKit

theorem opens_mail {P : Program} {t : TypeId} {f0 f1 f2 f3 : Field} (ht : P.underlying t = some (.struct #[f0, f1, f2, f3])) (hc : P.cellsOf t = 4) (o0 : f0.offset = 0) (o1 : f1.offset = 1) (o2 : f2.offset = 2) (o3 : f3.offset = 3) (k0 : P.cellsOf f0.type = 1) (k1 : P.cellsOf f1.type = 1) (k2 : P.cellsOf f2.type = 1) (k3 : P.cellsOf f3.type = 1)
    (h0 : P.underlying f0.type = some .string) (h1 : P.underlying f1.type = some .string) (h2 : P.underlying f2.type = some .string) (h3 : Opens P f3.type (List UInt8)) : Opens P t Mail := by
  intro H enc w base spare held fuel cs d ps h
  obtain ⟨y0, y1, y2, y3, n, hx, hl, e0, e1, e2, e3⟩ := Go.Joins.trod_struct4 ht h
  rw [hc] at hl
  match cs, hl with
  | [c0, c1, c2, c3], _ =>
    rw [o0, k0] at e0
    rw [o1, k1] at e1
    rw [o2, k2] at e2
    rw [o3, k3] at e3
    obtain ⟨a, a1, a2, a3⟩ := DataW.trod_string h0 e0
    obtain ⟨b, b1, b2, b3⟩ := DataW.trod_string h1 e1
    obtain ⟨c, q1, q2, q3⟩ := DataW.trod_string h2 e2
    simp at a1 b1 q1 e3
    subst a1 b1 q1 a2 b2 q2
    obtain ⟨l, hl1, hl2⟩ := h3 H enc w base spare held n [c3] y3.1 y3.2 e3
    simp only [Prod.mk.injEq] at hx
    obtain ⟨rfl, rfl⟩ := hx
    refine ⟨⟨a, b, c, l⟩, ⟨c3, rfl, a3, b3, q3, hl1⟩, ?_⟩
    show a.size + b.size + c.size + Dat.bulk l + 4 ≤ Rows.uptoBulk (.agg [.lit (.string a.data.toList), .lit (.string b.data.toList), .lit (.string c.data.toList), y3.1])
    simp only [Rows.uptoBulk, Rows.uptoBulkAll]
    rw [Array.length_toList, Array.length_toList, Array.length_toList]
    show a.size + b.size + c.size + Dat.bulk l + 4 ≤ a.size + 1 + (b.size + 1 + (c.size + 1 + (Rows.uptoBulk y3.1 + 0))) + 1
    omega
theorem opens_amail : Opens Tryz.prog 31 Mail := opens_mail Tryz.underlying31 (by kernel_rfl) rfl rfl rfl rfl (by kernel_rfl) (by kernel_rfl) (by kernel_rfl) (by kernel_rfl) Tryz.underlying9 Tryz.underlying9 Tryz.underlying9 opens_bytes
theorem opens_mails : Opens Tryz.prog 24 (List Mail) := opens_slice Tryz.underlying24 (by kernel_rfl) opens_amail
theorem mail_bulk (m : Mail) : m.ident.size ≤ Dat.bulk m := by show m.ident.size ≤ m.sender.size + m.subject.size + m.ident.size + Dat.bulk m.body + 4; omega
theorem mails_bulk (l : List Mail) : ∀ x ∈ l, x.ident.size ≤ Dat.bulk l := by
  intro x hx
  show _ ≤ (l.map Dat.bulk).sum + 1
  induction l with
  | nil => cases hx
  | cons y l ih =>
    rw [List.map_cons, List.sum_cons]
    rcases List.mem_cons.1 hx with rfl | hx
    · have := mail_bulk x; omega
    · have := ih hx; omega
theorem mails_len (l : List Mail) : l.length ≤ Dat.bulk l := by
  show _ ≤ (l.map Dat.bulk).sum + 1
  induction l with
  | nil => exact Nat.zero_le _
  | cons y l ih =>
    rw [List.map_cons, List.sum_cons, List.length_cons]
    have : 1 ≤ Dat.bulk y := by show 1 ≤ y.sender.size + y.subject.size + y.ident.size + Dat.bulk y.body + 4; omega
    omega
end Go.Proofs.YtjiaidchcldocaaGreatDoor
namespace Go.Proofs.YtjiaidchcldocaaGreatDoor
open Go.RowKit

theorem own_block_lt {α : Type} [Dat α] {e : TypeId} {w : World} {O : Nat → Prop} {v : Value} {l : List α} (h : Own e w O v l) : ∀ k, v.ownBlock = some k → k < w.heap.size := by
  obtain ⟨xs, h1, _⟩ := h
  exact fun k hk => (h1.lt k hk).2

theorem Own.keep {α : Type} [Dat α] {e : TypeId} {w w' : World} {O O' O'' : Nat → Prop} {v : Value} {l : List α} (h : Own e w O v l) (hc : Chg O' w w')
    (h1 : ∀ k, k < w.heap.size → O' k → O k) (h2 : ∀ k, k < w.heap.size → O'' k → O k) : Own e w' O'' v l := by
  obtain ⟨xs, hx, hb, hel⟩ := h
  have hlt := fun k hk => (hx.lt k hk).2
  refine ⟨xs, ?_, fun k hk ho => hb k hk (h2 k (hlt k hk) ho), ?_⟩
  · refine ⟨hx.1, ?_⟩
    rcases hx.2 with h | ⟨g, cap, cur, rfl, hg, hh, r⟩
    · exact .inl h
    · refine .inr ⟨g, cap, cur, rfl, hg, ?_, r⟩
      rw [hc.block g (hlt g rfl) (fun ho => hb g rfl (h1 g (hlt g rfl) ho))]
      exact hh
  · intro i x hi
    refine Dat.keep (hel i x hi) hc (fun k hk ho => .inl (h1 k hk ho)) ?_
    rintro k hk (ho | ho)
    · exact .inl (h2 k hk ho)
    · exact .inr ho
theorem Own.never {α : Type} [Dat α] {e : TypeId} {w w' : World} {O : Nat → Prop} {v : Value} {l : List α} (h : Own e w O v l) (hc : Chg Never w w') : Own e w' O v l :=
  h.keep hc (fun _ _ h => h.elim) (fun _ _ h => h)

theorem Own.rdv {α : Type} [Dat α] {e : TypeId} {w : World} {O : Nat → Prop} {v : Value} {l : List α} (h : Own e w O v l) : Rdv w O v l := by
  obtain ⟨xs, hx, hb, hel⟩ := h
  have hlen := hx.1
  rcases hx.2 with ⟨rfl, h0⟩ | ⟨g, cap, cur, rfl, hg, hh, hn, hm, hcs, htake⟩
  · have : l = [] := List.eq_nil_of_length_eq_zero h0
    subst this
    exact rdv_nil _ _
  · refine ⟨some ⟨g, 0, none⟩, cap, rfl, hn, hm, ?_⟩
    intro i x hi
    have hil := (List.getElem?_eq_some_iff.1 hi).1
    have hel' := hel i x hi
    have hel2 : Dat.rd w O _ x := Dat.keep hel' (Chg.refl Never w) (fun _ _ h => h.elim) (fun k _ ho => .inl ho)
    refine ⟨g, 0, _, rfl, hb g rfl, ?_, hel2⟩
    intro j u hj
    have hcell := World.ownsRow.cells hx (g := g) rfl (i * Dat.n α + j) u ?_
    · rw [← hcell]
      unfold Addr.add
      split <;> simp_all
    · rw [List.getElem?_take] at hj
      split at hj
      · rw [List.getElem?_drop] at hj; exact hj
      · cases hj

theorem append_block {P : Program} (w : World) (base : Nat) (t ty e : TypeId) (i : TypeInfo) (z : Value) (size bytes : Nat) (ht : P.underlying t = some (.slice e)) (hi : P.info? e = some i) (hz : i.zero = some z)
    (hsize : i.size = size) (hby : i.bytes = bytes)
    (v : Value) (n : Nat) (xs : List Value) (hown : w.ownsRow base e size v n xs)
    (a : Addr) (m c : Nat) (news : List Value) (hl : news.length = m * size) (hnews : ∀ j u, news[j]? = some u → w.cell? (a.add j) = some u) (h1 : ∀ u ∈ news, u.oneCell' = true)
    (h63 : n + m ≤ maxLen) (hbytes : (n + m) * bytes ≤ 140737488355328) (hm : m ≠ 0) {v' : Value} {w' : World} (hrun : (Builtin.append_ #[t, t] ty #[v, .slice (some a) m c]).run P w = .ok v' w') :
    ∃ k, v'.ownBlock = some k ∧ (v.ownBlock = some k ∨ k = w.heap.size) := by
  subst hsize
  subst hby
  have hsmall : n + m ≤ 9223372036854775807 := by simp only [maxLen] at h63; omega
  rcases hown.2 with ⟨rfl, rfl⟩ | ⟨g, cap, cur, rfl, hbg, hg, hnc, hcm, hcs, htake⟩
  · have hr := run_append_nil (P := P) w t ty e i z ht hi hz a m c news hl hnews (by omega) (by omega) (by have hb := hbytes; simp only [Nat.zero_add] at hb; omega)
    rw [hr] at hrun
    injection hrun with hv _
    subst hv
    exact ⟨_, rfl, .inr rfl⟩
  · by_cases hroom : n + m ≤ cap
    · have hfit : n * i.size + news.length ≤ cur.size := by rw [hl, hcs, ← Nat.add_mul]; exact Nat.mul_le_mul_right _ hroom
      have hr := run_append_room (P := P) w t ty e i ht hi g n cap cur hg a m c news hl hnews h1 hroom hfit
      rw [hr] at hrun
      injection hrun with hv _
      subst hv
      exact ⟨_, rfl, .inl rfl⟩
    · have holds : ∀ j u, xs[j]? = some u → w.cell? ((⟨g, 0, none⟩ : Addr).add j) = some u := hown.cells (g := g) rfl
      have hr := run_append_grow (P := P) w t ty e i z ht hi hz ⟨g, 0, none⟩ n cap xs hown.1 holds a m c news hl hnews (by omega) (by omega) (growslice_fits (by omega) hbytes)
      rw [hr] at hrun
      injection hrun with hv _
      subst hv
      exact ⟨_, rfl, .inr rfl⟩

structure ElemOk (P : Program) (t e : TypeId) (n : Nat) : Prop where
  ht : P.underlying t = some (.slice e)
  info : ∃ i z, P.info? e = some i ∧ i.zero = some z ∧ i.size = n ∧ z.cells.size = n ∧ i.bytes ≤ 128

theorem run_push {P : Program} {α : Type} [Dat α] {t ty e : TypeId} (hP : ElemOk P t e (Dat.n α)) {w0 : World} {O : Nat → Prop} {v : Value} {l : List α} {y : α} {es : List Value} (E' : TypeId)
    (hown : Own e w0 O v l) (hy : Dat.rd w0 (fun k => O k ∨ v.ownBlock = some k) es y) (hO : ∀ k, O k → k < w0.heap.size) (hlen : l.length ≤ 1000000000) :
    ∃ v' w', (Builtin.append_ #[t, t] ty #[v, .slice (some ⟨w0.heap.size, 0, none⟩) 1 1]).run P (w0.alloc (.cells es.toArray E')) = .ok v' w' ∧ Own e w' O v' (l ++ [y]) ∧ Chg (OwnB v) w0 w' ∧ (∃ k, v'.ownBlock = some k ∧ (v.ownBlock = some k ∨ w0.heap.size ≤ k)) := by
  obtain ⟨i, z, hi, hz, hsz, hzs, hby⟩ := hP.info
  have hlt := own_block_lt hown
  obtain ⟨xs, hx, hb, hel⟩ := id hown
  have hnl : es.length = 1 * Dat.n α := by rw [Dat.len hy]; omega
  have hpos := Dat.pos (α := α)
  have hcells : ∀ j u, es[j]? = some u → (w0.alloc (.cells es.toArray E')).cell? ((⟨w0.heap.size, 0, none⟩ : Addr).add j) = some u := by
    intro j u hj
    have e1 : (⟨w0.heap.size, 0, none⟩ : Addr).add j = ⟨w0.heap.size, j, none⟩ := by unfold Addr.add; split <;> simp_all
    rw [e1, World.cell?, heap_alloc_new]
    simpa using hj
  have hx' := hx.alloc (.cells es.toArray E')
  have hbound : (l.length + 1) * i.bytes ≤ 140737488355328 := by
    have := Nat.mul_le_mul (show l.length + 1 ≤ 1000000001 by omega) hby
    omega
  obtain ⟨v', w', hrun, hown', hgrow, hnil⟩ := run_append_own (P := P) (w0.alloc (.cells es.toArray E')) 0 t ty e i z (Dat.n α) i.bytes hP.ht hi hz hsz rfl hzs hpos v l.length xs hx'
    ⟨w0.heap.size, 0, none⟩ 1 1 es hnl hcells (Dat.one hy) (by unfold maxLen; omega) hbound (Nat.zero_le _)
  obtain ⟨kb, hkb, hkb'⟩ := append_block (P := P) (w0.alloc (.cells es.toArray E')) 0 t ty e i z (Dat.n α) i.bytes hP.ht hi hz hsz rfl v l.length xs hx'
    ⟨w0.heap.size, 0, none⟩ 1 1 es hnl hcells (Dat.one hy) (by unfold maxLen; omega) hbound (by omega) hrun
  have hkb2 : v.ownBlock = some kb ∨ w0.heap.size ≤ kb := by
    rcases hkb' with h | h
    · exact .inl h
    · right; rw [h]; simp
  have hc : Chg (OwnB v) w0 w' := ((Chg.refl (OwnB v) w0).alloc _).trans' (Chg.of_grown hgrow) (fun k _ hk => hk)
  refine ⟨v', w', hrun, ⟨xs ++ es, ?_, ?_, ?_⟩, hc, kb, hkb, hkb2⟩
  · simpa using hown'
  · intro k hk ho
    rw [hkb] at hk
    injection hk with hk
    subst hk
    rcases hkb2 with h | h
    · exact hb _ h ho
    · exact absurd (hO _ ho) (by omega)
  · have hsub : ∀ k, k < w0.heap.size → (O k ∨ v'.ownBlock = some k) → (O k ∨ v.ownBlock = some k) := by
      rintro k hk (h | h)
      · exact .inl h
      · rw [hkb] at h
        injection h with h
        subst h
        rcases hkb2 with h | h
        · exact .inr h
        · omega
    intro j x hj
    have hxl := hx.1
    rcases Nat.lt_or_ge j l.length with hjl | hjl
    · rw [List.getElem?_append_left hjl] at hj
      have h := Dat.keep (hel j x hj) hc (fun k _ hk => .inr hk) hsub
      have hle : j * Dat.n α + Dat.n α ≤ xs.length := by rw [hxl, ← Nat.succ_mul]; exact Nat.mul_le_mul_right _ hjl
      rw [List.drop_append_of_le_length (by omega), List.take_append_of_le_length (by rw [List.length_drop]; omega)]
      exact h
    · have e : j = l.length := by
        have := (List.getElem?_eq_some_iff.1 hj).1
        simp at this
        omega
      subst e
      simp at hj
      subst hj
      rw [← hxl, List.drop_left, List.take_of_length_le (by omega)]
      exact Dat.keep hy hc (fun k _ hk => .inr hk) hsub

theorem wpList_push {P : Program} {ops : Array Oper} {rest : List Oper} {o : Oper} {a : Act} {Q : Exit → Act → World → Prop} (hgd : o.guard = none) (s x : Operand) (t : TypeId)
    (ho : o.op = .call { callee := .builtin .append, args := #[s, x], argTypes := #[t, t] }) {α : Type} [Dat α] {e : TypeId} (hP : ElemOk P t e (Dat.n α)) {w0 : World} {O : Nat → Prop} {v : Value} {l : List α} {y : α} {es : List Value} {E' : TypeId} {B : Nat}
    (hs : a.eval s = v) (hx : a.eval x = .slice (some ⟨B, 0, none⟩) 1 1) (hB : B = w0.heap.size)
    (hown : Own e w0 O v l) (hy : Dat.rd w0 (fun k => O k ∨ v.ownBlock = some k) es y) (hO : ∀ k, O k → k < w0.heap.size) (hlen : l.length ≤ 1000000000)
    (h : ∀ v' w', Own e w' O v' (l ++ [y]) → Chg (OwnB v) w0 w' → (∃ k, v'.ownBlock = some k ∧ (v.ownBlock = some k ∨ w0.heap.size ≤ k)) → wpList P ops Q rest (a.put o.dst v') w') :
    wpList P ops Q (o :: rest) a (w0.alloc (.cells es.toArray E')) := by
  subst hB
  refine wpList_plain hgd fun K hK => ?_
  obtain ⟨v', w', hrun, h1, h2, h3⟩ := run_push (ty := o.type) hP E' hown hy hO hlen
  unfold Oper.wp execOp
  simp only [ho, resolve, invoke, builtin, Sem.run_bind, Sem.run_pure, Result.andThen_ok, List.map_toArray, List.map_cons, List.map_nil, hs, hx, hrun]
  exact hK _ _ (h v' w' h1 h2 h3)

theorem elemOk_of {P : Program} {t e : TypeId} {n b : Nat} {z : Value} (ht : P.underlying t = some (.slice e)) (h : (P.info? e).map (fun i => (i.zero, i.size, i.bytes)) = some (some z, n, b)) (hz : z.cells.size = n) (hb : b ≤ 128) : ElemOk P t e n := by
  obtain ⟨i, h1, h2, h3, h4⟩ := info_parts h
  exact ⟨ht, i, z, h1, h2, h3, hz, by omega⟩

theorem own_step {α : Type} [Dat α] {e : TypeId} {w wr w' : World} {v : Value} {l : List α} (hc : Chg Never w wr) (hown : Own e wr (Old w.heap.size) v l) (hc' : Chg (OwnB v) wr w') : Chg Never w w' := by
  refine hc.trans' hc' ?_
  intro i hi ho
  obtain ⟨xs, _, hb, _⟩ := hown
  exact (hb i ho hi).elim
theorem old_lt {w wr : World} (hc : Chg Never w wr) : ∀ k, Old w.heap.size k → k < wr.heap.size := fun _ hk => Nat.lt_of_lt_of_le hk hc.size
end Go.Proofs.YtjiaidchcldocaaGreatDoor
namespace Go.Proofs.YtjiaidchcldocaaGreatDoor
open Go.RowKit

theorem own_out {α : Type} [Dat α] {e : TypeId} {w : World} {O : Nat → Prop} {v : Value} {l : List α} (h : Own e w O v l) : ∀ k, v.ownBlock = some k → ¬ O k := by
  obtain ⟨_, _, q, _⟩ := h
  exact q
end Go.Proofs.YtjiaidchcldocaaGreatDoor
namespace Go.Proofs.YtjiaidchcldocaaGreatDoor
open Go.RowKit

abbrev IsB : Nat → Nat → List Value → World → Prop := Lib.IsBuilderF 140 5
abbrev BAt (B b : Nat) (bs : List Value) (w : World) : Prop := Lib.BuilderAtF 140 5 B b (.pointer (some ⟨b, 0, none⟩)) bs w
theorem bld_info : (Tryz.prog.info? 140).map (·.size) = some 2 := by kernel_rfl
theorem bld_lies : liesAt Tryz.prog Tryz.prog.depth 140 (2 / Tryz.prog.cellsOf 140) 0 140 1 = true := by kernel_rfl
theorem bld_byte : (Tryz.prog.info? 5).map (fun i => (i.zero, i.size, i.bytes)) = some (some (.int .u8 0), 1, 1) := by kernel_rfl

end Go.Proofs.YtjiaidchcldocaaGreatDoor
namespace Go.Proofs.YtjiaidchcldocaaGreatDoor
open Go.RowKit

theorem byte_at {s : ByteArray} {k : Nat} (h : k < s.size) : s.data.toList[k]? = some (s[k]'h) := by
  rw [Array.getElem?_toList, Array.getElem?_eq_getElem h]; rfl
theorem byte_eq {c d : UInt8} {n : Int} (h : ((c.toNat : Int) == n) = true) (hd : (d.toNat : Int) = n) : c = d := by
  have := eq_of_beq h
  exact UInt8.toNat_inj.1 (by omega)
theorem byte_ne {c d : UInt8} {n : Int} (h : ((c.toNat : Int) == n) = false) (hd : (d.toNat : Int) = n) : c ≠ d := by
  rintro rfl
  rw [hd] at h
  simp at h
def PartsInv (d : UInt8) (s : ByteArray) (q k : Nat) (L : List ByteArray) : Prop :=
  parts d s.data.toList = L.map (·.data.toList) ++ parts d (s.data.toList.drop q) ∧ ∀ j, q ≤ j → j < k → s.data.toList[j]? ≠ some d
theorem pinv_start (d : UInt8) (s : ByteArray) : PartsInv d s 0 0 [] := ⟨by simp, fun j _ h => absurd h (Nat.not_lt_zero j)⟩
theorem PartsInv.step {d : UInt8} {s : ByteArray} {q k : Nat} {L : List ByteArray} {c : UInt8} (h : PartsInv d s q k L) (hk : s.data.toList[k]? = some c) (hc : c ≠ d) : PartsInv d s q (k + 1) L :=
  ⟨h.1, fun j h1 h2 e => by
    by_cases hj : j = k
    · subst hj; rw [hk] at e; injection e with e; exact hc e
    · exact h.2 j h1 (by omega) e⟩
theorem no_sep {d : UInt8} {s : List UInt8} {q k : Nat} (h : ∀ j, q ≤ j → j < k → s[j]? ≠ some d) : ∀ x ∈ (s.drop q).take (k - q), x ≠ d := by
  rintro x hx rfl
  obtain ⟨i, hi⟩ := List.getElem?_of_mem hx
  rw [List.getElem?_take] at hi
  split at hi
  · rw [List.getElem?_drop] at hi
    exact h (q + i) (by omega) (by omega) hi
  · cases hi
theorem PartsInv.cut {d : UInt8} {s : ByteArray} {q k : Nat} {L : List ByteArray} (h : PartsInv d s q k L) (hq : q ≤ k) (hk : s.data.toList[k]? = some d) : PartsInv d s (k + 1) (k + 1) (L ++ [s.extract q k]) := by
  refine ⟨?_, fun j h1 h2 => by omega⟩
  have e : s.data.toList.drop q = (s.data.toList.drop q).take (k - q) ++ d :: s.data.toList.drop (k + 1) := by
    conv => lhs; rw [← List.take_append_drop (k - q) (s.data.toList.drop q), List.drop_drop, show q + (k - q) = k by omega, drop_eq hk]
  rw [h.1, e, parts_cut _ (no_sep h.2), List.map_append, List.append_assoc]
  simp only [List.map_cons, List.map_nil, List.singleton_append]
  rw [Lib.extract_data]
theorem PartsInv.fin {d : UInt8} {s : ByteArray} {q : Nat} {L : List ByteArray} (h : PartsInv d s q s.size L) : (parts d s.data.toList).map toB = L ++ [s.extract q s.size] := by
  have hl : s.data.toList.length = s.size := (Lib.size_eq s).symm
  have e : (s.data.toList.drop q).take (s.size - q) = s.data.toList.drop q := List.take_of_length_le (by rw [List.length_drop, hl]; exact Nat.le_refl _)
  have hn := no_sep h.2
  rw [e] at hn
  have e2 : toB (s.data.toList.drop q) = s.extract q s.size := by rw [← e, ← Lib.extract_data, toB_of]
  rw [h.1, parts_none hn, List.map_append, List.map_map, map_toB, List.map_cons, List.map_nil, e2]

theorem elemOk_parts : ElemOk Tryz.prog 86 9 1 := elemOk_of Tryz.underlying86 (z := .string ⟨#[]⟩) (b := 16) (by kernel_rfl) rfl (by decide)
set_option maxHeartbeats 1000000 in
set_option maxRecDepth 100000 in
theorem refParts_any (s : ByteArray) (w : World) (hs : s.size ≤ 100000000) :
    Calls Tryz.prog 105 #[.string s] w fun e w' => ∃ r, e = .returned r ∧ Chg Never w w' ∧ Rdv w' (Old w.heap.size) r ((parts 10 s.data.toList).map toB) := by
  go_enter Tryz.func105, Tryz.ntmps105
  go_wp2_with fail
  go_loopw [3, 4, 5] (fun o fr i wr => ∃ (q k : Nat) (L : List ByteArray), fr = .int .i64 q ∧ i = .int .i64 k ∧ q ≤ k ∧ k ≤ s.size ∧ Chg Never w wr ∧ Own 9 wr (Old w.heap.size) o L ∧ L.length ≤ k ∧ Hid (PartsInv 10 s q k L)) (fun _ _ i _ => s.size - (intOf i).toNat)
  case atStart => exact ⟨0, 0, [], rfl, rfl, Nat.le_refl _, Nat.zero_le _, Chg.refl _ _, own_nil _ _ _, Nat.le_refl _, pinv_start _ _⟩
  case round =>
    obtain ⟨q, k, L, rfl, rfl, hqk, hk, hc, hown, hL, hP⟩ := hrel
    by_cases hlt : k < s.size
    · have HB := Lib.hid (byte_at hlt)
      cases hq : (((s[k]'hlt).toNat : Int) == 10) with
      | true =>
        have HC : Hid (PartsInv 10 s (k + 1) (k + 1) (L ++ [s.extract q k])) := hP.out.cut hqk (by rw [HB.out, byte_eq (d := 10) hq rfl])
        have hes : (s.extract q k).size ≤ maxLen := by rw [ByteArray.size_extract]; unfold maxLen; omega
        go_wp2_with (at_builtin; refine wpList_push (by rfl) _ _ 86 (by rfl) elemOk_parts (O := Old w.heap.size) (l := L) (y := s.extract q k) (by rfl) (by rfl) (by simp) hown ⟨rfl, hes⟩ (old_lt hc) (by omega) ?_; intro v' w2 hown2 hc2 _)
        have hc3 := own_step hc hown hc2
        clear hc2 hown hc
        go_wp2_with fail
        go_roundw
        case rel => exact ⟨k + 1, k + 1, _, by go_num, by go_num, Nat.le_refl _, by omega, hc3, hown2, by simp; omega, HC⟩
        case measure => simp [intOf] <;> omega
      | false =>
        have HC : Hid (PartsInv 10 s q (k + 1) L) := hP.out.step HB.out (byte_ne hq rfl)
        go_wp2_with fail
        go_roundw
        case rel => exact ⟨q, k + 1, L, rfl, by go_num, by omega, by omega, hc, hown, by omega, HC⟩
        case measure => simp [intOf] <;> omega
    · obtain rfl : k = s.size := by omega
      have HC := Lib.hid hP.out.fin
      have hes : (s.extract q s.size).size ≤ maxLen := by rw [ByteArray.size_extract]; unfold maxLen; omega
      go_wp2_with (at_builtin; refine wpList_push (by rfl) _ _ 86 (by rfl) elemOk_parts (O := Old w.heap.size) (l := L) (y := s.extract q s.size) (by rfl) (by rfl) (by simp) hown ⟨rfl, hes⟩ (old_lt hc) (by omega) ?_; intro v' w2 hown2 hc2 _)
      have hc3 := own_step hc hown hc2
      clear hc2 hown hc
      go_wp2_with fail
      go_ret
      exact ⟨_, rfl, hc3, by rw [HC.out]; exact hown2.rdv⟩

end Go.Proofs.YtjiaidchcldocaaGreatDoor
namespace Go.Proofs.YtjiaidchcldocaaGreatDoor

end Go.Proofs.YtjiaidchcldocaaGreatDoor
namespace Go.Proofs.YtjiaidchcldocaaGreatDoor
open Go.RowKit

theorem linesFault_len {l : List ByteArray} (h : linesFault l = 0) : l.length ≤ 60 := by
  unfold linesFault at h
  by_cases h1 : 60 < l.length
  · simp [h1] at h
  · omega
def zeros : Array Value := Array.replicate 3721 (.int .i64 0)
def Fil (T : Nat) (wr : World) (l m : List ByteArray) (x y : Int) : Prop :=
  ∃ c : Array Value, wr.heap[T]? = some (.cells c 289 (0, 0)) ∧ c.size = 3721 ∧ (∀ j, j < 3721 → ∃ n, c[j]? = some (.int .i64 n)) ∧
    ∀ i k : Nat, i ≤ l.length → k ≤ m.length → (x < i ∨ (x = i ∧ y < k)) → c[i * 61 + k]? = some (.int .i64 (far (l.drop i) (m.drop k)))

theorem Fil.cell {T : Nat} {wr : World} {l m : List ByteArray} {x y : Int} (h : Fil T wr l m x y) {i k : Nat} (hi : i ≤ l.length) (hk : k ≤ m.length) (hp : x < i ∨ (x = i ∧ y < k)) :
    wr.cell? ⟨T, i * 61 + k, none⟩ = some (.int .i64 (far (l.drop i) (m.drop k))) := by
  obtain ⟨c, h1, h2, h3, h4⟩ := h
  simp only [World.cell?, h1]
  exact h4 i k hi hk hp
theorem Fil.any {T : Nat} {wr : World} {l m : List ByteArray} {x y : Int} (h : Fil T wr l m x y) {j : Nat} (hj : j < 3721) :
    ∃ n, wr.cell? ⟨T, j, none⟩ = some (.int .i64 n) := by
  obtain ⟨c, h1, h2, h3, h4⟩ := h
  simp only [World.cell?, h1]
  exact h3 j hj
theorem Fil.free {T : Nat} {wr : World} {l m : List ByteArray} {x y : Int} (h : Fil T wr l m x y) (j : Nat) : wr.frozen? ⟨T, j, none⟩ = false := by
  obtain ⟨c, h1, h2, h3, h4⟩ := h
  simp [World.frozen?, h1]

theorem Fil.set {T : Nat} {wr : World} {l m : List ByteArray} {i k : Nat} (h : Fil T wr l m i k) (hl : l.length ≤ 60) (hm : m.length ≤ 60) (hi : i ≤ l.length) (hk : k ≤ m.length) {n : Int} (hn : n = far (l.drop i) (m.drop k)) :
    Fil T (wr.setCell ⟨T, i * 61 + k, none⟩ (.int .i64 n)) l m i ((k : Int) - 1) := by
  obtain ⟨c, h1, h2, h3, h4⟩ := h
  refine ⟨c.setIfInBounds (i * 61 + k) (.int .i64 n), ?_, by simpa using h2, ?_, ?_⟩
  · simp [World.setCell, Array.getElem?_modify, h1]
  · intro j hj
    by_cases e : i * 61 + k = j
    · exact ⟨n, by rw [Array.getElem?_setIfInBounds, if_pos e, if_pos (by omega)]⟩
    · obtain ⟨n', hn'⟩ := h3 j hj
      exact ⟨n', by rw [Array.getElem?_setIfInBounds, if_neg e]; exact hn'⟩
  · intro i' k' hi' hk' hp
    by_cases e : i * 61 + k = i' * 61 + k'
    · have e1 : i' = i := by omega
      have e2 : k' = k := by omega
      subst e1 e2
      rw [Array.getElem?_setIfInBounds, if_pos e, if_pos (by omega), hn]
    · rw [Array.getElem?_setIfInBounds, if_neg e]
      refine h4 i' k' hi' hk' ?_
      rcases hp with hp | ⟨hp, hq⟩
      · exact .inl hp
      · rcases Int.lt_or_le k k' with h5 | h5
        · exact .inr ⟨hp, h5⟩
        · exact absurd (by omega) e

theorem Fil.drewN {T : Nat} {wr : World} {l m : List ByteArray} {x y : Int} (h : Fil T wr l m x y) (n : Nat) : Fil T (wr.drewN n) l m x y := h
theorem Fil.drew {T : Nat} {wr : World} {l m : List ByteArray} {x y : Int} (h : Fil T wr l m x y) : Fil T wr.drew l m x y := h

theorem Fil.start (w : World) (l m : List ByteArray) : Fil w.heap.size (w.alloc (.cells zeros 289)) l m l.length m.length := by
  refine ⟨zeros, heap_alloc_new _ _, by simp [zeros], ?_, ?_⟩
  · intro j hj
    exact ⟨0, by simp [zeros, hj]⟩
  · intro i k hi hk hp
    omega
theorem Fil.row {T : Nat} {wr : World} {l m : List ByteArray} {i : Nat} (h : Fil T wr l m i (-1)) : Fil T wr l m ((i : Int) - 1) m.length := by
  obtain ⟨c, h1, h2, h3, h4⟩ := h
  refine ⟨c, h1, h2, h3, ?_⟩
  intro i' k' hi' hk' hp
  refine h4 i' k' hi' hk' ?_
  omega

end Go.Proofs.YtjiaidchcldocaaGreatDoor
namespace Go.Proofs.YtjiaidchcldocaaGreatDoor
open Go.RowKit

theorem edit_check_any (l : List Mark) (v : Value) (w : World) (h : Rdv w Never v l) :
    Calls Tryz.prog 163 #[v] w fun e w' => e = .returned (errV (scriptFault l)) ∧ Chg Never w w' := by
  obtain ⟨a, cap, rfl, h1, h2, h3⟩ := rdv_slice h
  unfold maxLen at h2
  by_cases h4 : 120 < l.length
  · go_enter Tryz.func163, Tryz.ntmps163
    go_wp2
    go_ret
    exact ⟨by simp [scriptFault, h4, errV], Chg.refl _ _⟩
  · go_enter Tryz.func163, Tryz.ntmps163
    go_wp2
    go_loopw [12] (fun i wr => ∃ k : Nat, k ≤ l.length ∧ i = .int .i64 k ∧ Hid (firstOf markFault (l.drop k) = scriptFault l) ∧ Chg Never w wr) (fun i _ => l.length - (intOf i).toNat)
    case atStart => exact ⟨0, Nat.zero_le _, rfl, by simp [Hid, scriptFault, h4], Chg.refl _ _⟩
    case round =>
      obtain ⟨k, hk, rfl, hf, hc⟩ := hrel
      by_cases hlt : k < l.length
      · obtain ⟨x, hx⟩ : ∃ x, l[k]? = some x := ⟨l[k], by simp [hlt]⟩
        obtain ⟨b, off, rfl, _, _, c0, c1, s0, s1, hxs⟩ := elems_mark h3 hx
        have c0 := hc.cellNever c0
        have c1 := hc.cellNever c1
        have hd := Lib.hid (drop_eq hx)
        clear hx h3 h
        obtain ⟨sg, tx⟩ := x
        simp only at c0 c1 s0 s1 hxs
        by_cases hsg : sg = 32 ∨ sg = 45 ∨ sg = 43
        · have hmf : markFault ⟨sg, tx⟩ = lineFault tx := by rcases hsg with e | e | e <;> subst e <;> rfl
          have HM := Lib.hid hmf
          clear hmf
          by_cases hz : lineFault tx = 0
          · rcases hsg with rfl | rfl | rfl
            all_goals
              go_wp2_with (go_at_call 130; refine (one_any _ _ hxs).mono ?_; rintro e w' ⟨rfl, rfl⟩; rw [hz, errV_zero])
              go_roundw
              case rel => exact ⟨k + 1, by omega, by go_num, by have := hf.out; rw [hd.out, firstOf, HM.out, if_pos hz] at this; exact this, hc.alloc _⟩
              case measure => simp [intOf] <;> omega
          · rcases hsg with rfl | rfl | rfl
            all_goals
              go_wp2_with (go_at_call 130; refine (one_any _ _ hxs).mono ?_; rintro e w' ⟨rfl, rfl⟩; rw [errV_pos hz])
              go_ret
              have E : errV (scriptFault l) = errV (lineFault tx) := by rw [← hf.out, hd.out, firstOf, HM.out, if_neg hz]
              exact ⟨by rw [E, errV_pos hz]; rfl, hc.alloc _⟩
        · have t1 : (sg != 32) = true := by simp; omega
          have t2 : (sg != 45) = true := by simp; omega
          have t3 : (sg != 43) = true := by simp; omega
          have hmf : markFault ⟨sg, tx⟩ = 1 := by unfold markFault; rw [if_pos (by simp; omega)]
          have HM := Lib.hid hmf
          clear hmf hsg
          go_wp2_with fail
          go_ret
          have E : errV (scriptFault l) = errV 1 := by rw [← hf.out, hd.out, firstOf, HM.out, if_neg (by decide)]
          exact ⟨by rw [E]; rfl, hc.alloc _⟩
      · go_wp2
        go_ret
        exact ⟨by have := hf.out; rw [List.drop_of_length_le (by omega), firstOf] at this; rw [← this]; rfl, hc⟩

theorem elemOk_str : ElemOk Tryz.prog 86 9 1 := elemOk_of Tryz.underlying86 (z := .string ⟨#[]⟩) (b := 16) (by kernel_rfl) rfl (by decide)
theorem elemOk_mark : ElemOk Tryz.prog 127 126 2 := elemOk_of Tryz.underlying127 (z := .agg #[.int .u8 0, .string ⟨#[]⟩]) (b := 24) (by kernel_rfl) rfl (by decide)

theorem those_take {l : List Mark} {no : Int} {k : Nat} {x : Mark} (hx : l[k]? = some x) : those (l.take (k + 1)) no = if x.sign = no then those (l.take k) no else those (l.take k) no ++ [x.text] := by
  rw [List.take_add_one, hx]
  unfold those
  by_cases h : x.sign = no <;> simp [List.filter_append, h]
theorem those_le (l : List Mark) (no : Int) : (those l no).length ≤ l.length := by
  unfold those
  rw [List.length_map]
  exact List.length_filter_le _ _
theorem scriptFault_len {l : List Mark} (h : scriptFault l = 0) : l.length ≤ 120 := by
  unfold scriptFault at h
  by_cases h1 : 120 < l.length
  · simp [h1] at h
  · omega

def thoseR (l : List Mark) (no : Int) : List ByteArray := if scriptFault l = 0 then those l no else []

theorem those_any (l : List Mark) (no : Int) (v : Value) (w : World) (h : Rdv w Never v l) :
    Calls Tryz.prog 213 #[v, .int .u8 no] w fun e w' => ∃ r, e = .returned (.tuple #[r, errV (scriptFault l)]) ∧ Chg Never w w' ∧ Rdv w' (Old w.heap.size) r (thoseR l no) := by
  by_cases hz : scriptFault l = 0
  · have hlen := scriptFault_len hz
    obtain ⟨a, cap, rfl, h1, h2, h3⟩ := rdv_slice h
    unfold maxLen at h2
    have HT : Hid (thoseR l no = those l no) := if_pos hz
    go_enter Tryz.func213, Tryz.ntmps213
    go_wp2_with fail
    refine (edit_check_any l _ _ h).mono ?_
    rintro e w1 ⟨rfl, hc1⟩
    rw [hz, errV_zero]
    have HZ := Lib.hid hz
    clear hz
    go_wp2_with fail
    go_loopw [7, 17] (fun o i wr => ∃ k : Nat, k ≤ l.length ∧ i = .int .i64 k ∧ Chg Never w wr ∧ Own 9 wr (Old w.heap.size) o (those (l.take k) no)) (fun _ i _ => l.length - (intOf i).toNat)
    case atStart => exact ⟨0, Nat.zero_le _, rfl, hc1, own_nil _ _ _⟩
    case round =>
      obtain ⟨k, hk, rfl, hc, hown⟩ := hrel
      by_cases hlt : k < l.length
      · obtain ⟨x, hx⟩ : ∃ x, l[k]? = some x := ⟨l[k], by simp [hlt]⟩
        obtain ⟨b, off, rfl, _, _, c0, c1, s0, s1, hxs⟩ := elems_mark h3 hx
        have c0 := hc.cellNever c0
        have c1 := hc.cellNever c1
        have ht := Lib.hid (those_take (no := no) hx)
        have hle := those_le (l.take k) no
        have hle2 : (l.take k).length ≤ 120 := by simp; omega
        clear hx h3 h
        obtain ⟨sg, tx⟩ := x
        simp only at c0 c1 s0 s1 hxs
        by_cases hs : sg = no
        · have t1 : (sg != no) = false := by simp [hs]
          have HS := Lib.hid hs
          clear hs hle hle2
          go_wp2_with fail
          go_roundw
          case rel => exact ⟨k + 1, by omega, by go_num, hc.alloc _, by rw [ht.out, if_pos HS.out]; exact hown.never ((Chg.refl _ _).alloc _)⟩
          case measure => simp [intOf] <;> omega
        · have t1 : (sg != no) = true := by simp [hs]
          have HS := Lib.hid hs
          clear hs
          go_wp2_with (at_builtin; refine wpList_push rfl _ _ 86 rfl elemOk_str (O := Old w.heap.size) (l := those (l.take k) no) (y := tx) rfl rfl (by simp) (hown.never ((Chg.refl _ _).alloc _)) ⟨rfl, hxs⟩ (old_lt (hc.alloc _)) (by omega) ?_; intro v' w2 hown2 hc2 _)
          have hc3 := own_step (hc.alloc _) (hown.never ((Chg.refl _ _).alloc _)) hc2
          clear hc2 hle hle2
          go_wp2_with fail
          go_roundw
          case rel => exact ⟨k + 1, by omega, by go_num, hc3, by rw [ht.out, if_neg HS.out]; exact hown2⟩
          case measure => simp [intOf] <;> omega
      · go_wp2_with fail
        go_ret2
        refine ⟨_, by rw [HZ.out]; rfl, hc, ?_⟩
        rw [HT.out]
        rw [List.take_of_length_le (by omega)] at hown
        exact hown.rdv
  · go_enter Tryz.func213, Tryz.ntmps213
    go_wp2_with fail
    refine (edit_check_any l _ _ h).mono ?_
    rintro e w1 ⟨rfl, hc1⟩
    rw [errV_pos hz]
    go_wp2_with fail
    go_ret2
    exact ⟨.slice none 0 0, by rw [errV_pos hz]; rfl, hc1, by unfold thoseR; rw [if_neg hz]; exact rdv_nil _ _⟩
end Go.Proofs.YtjiaidchcldocaaGreatDoor
namespace Go.Proofs.YtjiaidchcldocaaGreatDoor
open Go.RowKit

theorem old_any (l : List Mark) (v : Value) (w : World) (h : Rdv w Never v l) :
    Calls Tryz.prog 184 #[v] w fun e w' => ∃ r, e = .returned (.tuple #[r, errV (scriptFault l)]) ∧ Chg Never w w' ∧ Rdv w' (Old w.heap.size) r (thoseR l 43) := by
  go_enter Tryz.func184, Tryz.ntmps184
  go_wp2_with fail
  refine (those_any l 43 _ _ h).mono ?_
  rintro e w1 ⟨r, rfl, hc, hr⟩
  go_wp2_with fail
  go_ret2
  exact ⟨r, rfl, hc, hr⟩
theorem new_any (l : List Mark) (v : Value) (w : World) (h : Rdv w Never v l) :
    Calls Tryz.prog 185 #[v] w fun e w' => ∃ r, e = .returned (.tuple #[r, errV (scriptFault l)]) ∧ Chg Never w w' ∧ Rdv w' (Old w.heap.size) r (thoseR l 45) := by
  go_enter Tryz.func185, Tryz.ntmps185
  go_wp2_with fail
  refine (those_any l 45 _ _ h).mono ?_
  rintro e w1 ⟨r, rfl, hc, hr⟩
  go_wp2_with fail
  go_ret2
  exact ⟨r, rfl, hc, hr⟩

theorem mark_stood : Tryz.prog.stoodInHeld 126 = false := by kernel_rfl
theorem mark_guard : Tryz.prog.eqGuardType Tryz.prog.depth 126 = false := by kernel_rfl
theorem mark_fields : Tryz.prog.underlying 126 = some (.struct (Tryz.prog.fieldsOf 126)) := by kernel_rfl
theorem mark_eq (w : World) (sx sy : Int) (tx ty : ByteArray) :
    (Op.equalIn 10000 126 (.agg #[.int .u8 sx, .string tx]) (.agg #[.int .u8 sy, .string ty])).run Tryz.prog w = .ok (sx == sy && tx.toList == ty.toList) w := by
  rw [run_equalIn_struct w 9999 _ _ _ mark_fields mark_stood]
  have hu := Tryz.underlying126
  simp [Program.fieldsOf, hu, Op.eqFields, part, go_sem]
  by_cases h1 : sx = sy <;> by_cases h2 : tx.toList = ty.toList <;> simp [h1, h2]
theorem mark_ne {x y : Mark} (h : x ≠ y) : (x.sign == y.sign && x.text.toList == y.text.toList) = false := by
  obtain ⟨sx, tx⟩ := x
  obtain ⟨sy, ty⟩ := y
  by_cases h1 : sx = sy
  · have h2 : tx ≠ ty := fun e => h (by rw [h1, e])
    simp [str_beq_false h2]
  · simp [h1]

theorem marks_any (l m : List Mark) (v u : Value) (w : World) (h : Rdv w Never v l) (g : Rdv w Never u m) :
    Calls Tryz.prog 165 #[v, u] w fun e w' => e = .returned (.bool (decide (l = m))) ∧ Chg Never w w' := by
  obtain ⟨a, cap, rfl, h1, h2, h3⟩ := rdv_slice h
  obtain ⟨c, cap', rfl, g1, g2, g3⟩ := rdv_slice g
  unfold maxLen at h2 g2
  by_cases h4 : l.length = m.length
  · have h4' : ((l.length : Int) != m.length) = false := by simp [h4]
    have H4 := Lib.hid h4
    clear h4
    go_enter Tryz.func165, Tryz.ntmps165
    go_wp2
    go_loopw [5] (fun i wr => ∃ k : Nat, k ≤ l.length ∧ i = .int .i64 k ∧ Hid (l.take k = m.take k) ∧ Chg Never w wr) (fun i _ => l.length - (intOf i).toNat)
    case atStart => exact ⟨0, Nat.zero_le _, rfl, by simp [Hid], Chg.refl _ _⟩
    case round =>
      obtain ⟨k, hk, rfl, hf, hc⟩ := hrel
      by_cases hlt : k < l.length
      · obtain ⟨x, hx⟩ : ∃ x, l[k]? = some x := ⟨l[k], by simp [hlt]⟩
        obtain ⟨y, hy⟩ : ∃ y, m[k]? = some y := ⟨m[k]'(by rw [← H4.out]; exact hlt), by simp [H4.out ▸ hlt]⟩
        obtain ⟨b, off, rfl, _, _, c0, c1, s0, s1, hxs⟩ := elems_mark h3 hx
        obtain ⟨b', off', rfl, _, _, d0, d1, r0, r1, hys⟩ := elems_mark g3 hy
        have c0 := hc.cellNever c0
        have c1 := hc.cellNever c1
        have d0 := hc.cellNever d0
        have d1 := hc.cellNever d1
        clear h3 g3 h g
        have hlm : k < m.length := by rw [← H4.out]; exact hlt
        have HX := Lib.hid hx
        have HY := Lib.hid hy
        clear hx hy
        have b1 : (k : Int) < l.length := by omega
        have b2 : (k : Int) < m.length := by omega
        have heq := mark_eq
        have hgd := mark_guard
        by_cases hxy : x = y
        · have HXY := Lib.hid hxy
          subst hxy
          obtain ⟨sx, tx⟩ := x
          simp only at c0 c1 d0 d1 s0 s1 r0 r1 hxs hys
          go_wp2
          go_quiet (fail)
          go_wp2
          go_roundw
          case rel => exact ⟨k + 1, by omega, by go_num, take_same hf HX.out HY.out, hc.drewN _⟩
          case measure => simp [intOf] <;> omega
        · have hne := mark_ne hxy
          have HXY := Lib.hid hxy
          obtain ⟨sx, tx⟩ := x
          obtain ⟨sy, ty⟩ := y
          simp only at c0 c1 d0 d1 s0 s1 r0 r1 hxs hys hne
          clear hxy
          go_wp2
          go_quiet (fail)
          go_wp2
          go_ret
          exact ⟨by rw [decide_eq_false (ne_of_get HX.out HY.out HXY.out)]; rfl, hc.drewN _⟩
      · go_wp2
        go_ret
        have E : l = m := by
          have := hf.out
          rwa [List.take_of_length_le (by omega), List.take_of_length_le (by rw [← H4.out]; omega)] at this
        exact ⟨by rw [decide_eq_true E]; rfl, hc⟩
  · have h4' : ((l.length : Int) != m.length) = true := by simp; omega
    go_enter Tryz.func165, Tryz.ntmps165
    go_wp2
    go_ret
    exact ⟨by rw [decide_eq_false (fun e => h4 (by rw [e]))]; rfl, Chg.refl _ _⟩
end Go.Proofs.YtjiaidchcldocaaGreatDoor
namespace Go.Proofs.YtjiaidchcldocaaGreatDoor
open Go.RowKit

theorem Fil.keep {T : Nat} {wr w' : World} {l m : List ByteArray} {x y : Int} {O : Nat → Prop} (h : Fil T wr l m x y) (hc : Chg O wr w') (hT : ¬ O T) : Fil T w' l m x y := by
  obtain ⟨c, h1, h2⟩ := h
  refine ⟨c, ?_, h2⟩
  rw [hc.block T (Array.getElem?_eq_some_iff.1 h1).1 hT]
  exact h1
theorem rd_mark (w : World) (O : Nat → Prop) (sg : Int) (tx : ByteArray) (h0 : 0 ≤ sg) (h1 : sg < 256) (h2 : tx.size ≤ maxLen) : Dat.rd w O [.int .u8 sg, .string tx] (⟨sg, tx⟩ : Mark) := ⟨rfl, h0, h1, h2⟩

theorem scriptFault_zero {l : List Mark} : scriptFault l = 0 ↔ l.length ≤ 120 ∧ ∀ x ∈ l, markFault x = 0 := by
  unfold scriptFault
  by_cases h : 120 < l.length
  · simp [h]; omega
  · simp only [if_neg h, firstOf_zero]
    exact ⟨fun h' => ⟨by omega, h'⟩, fun h' => h'.2⟩
end Go.Proofs.YtjiaidchcldocaaGreatDoor
namespace Go.Proofs.YtjiaidchcldocaaGreatDoor
open Go.RowKit

theorem kept_any (sg : Int) (tx : ByteArray) (w : World) :
    Calls Tryz.prog 212 #[.agg #[.int .u8 sg, .string tx]] w fun e w' => e = .returned (.bool (sg == 32)) ∧ Chg Never w w' := by
  go_enter Tryz.func212, Tryz.ntmps212
  go_wp2
  go_ret
  exact ⟨rfl, by repeat (first | exact Chg.refl _ _ | apply Chg.alloc)⟩
theorem changed_any (sg : Int) (tx : ByteArray) (w : World) :
    Calls Tryz.prog 182 #[.agg #[.int .u8 sg, .string tx]] w fun e w' => e = .returned (.bool (!(sg == 32))) ∧ Chg Never w w' := by
  go_enter Tryz.func182, Tryz.ntmps182
  go_wp2_with (go_at_call 212; refine (kept_any _ _ _).mono ?_; rintro e w1 ⟨rfl, hc1⟩)
  go_ret
  exact ⟨rfl, ((Chg.refl _ _).alloc _).trans hc1⟩

theorem oldN_take {l : List Mark} {k : Nat} {x : Mark} (hx : l[k]? = some x) : oldN (l.take (k + 1)) = oldN (l.take k) + (if x.sign = 43 then 0 else 1) := by
  unfold oldN
  rw [those_take hx]
  by_cases h : x.sign = 43 <;> simp [h]
theorem newN_take {l : List Mark} {k : Nat} {x : Mark} (hx : l[k]? = some x) : newN (l.take (k + 1)) = newN (l.take k) + (if x.sign = 45 then 0 else 1) := by
  unfold newN
  rw [those_take hx]
  by_cases h : x.sign = 45 <;> simp [h]
theorem oldN_le (l : List Mark) : oldN l ≤ l.length := those_le _ _
theorem newN_le (l : List Mark) : newN l ≤ l.length := those_le _ _

theorem size_any (h : Hunk) (mv : Value) (w : World) (hm : Rdv w Never mv h.marks) :
    Calls Tryz.prog 115 #[.agg #[.int .i64 h.old, .int .i64 h.new, mv]] w fun e w' => e = .returned (.tuple #[.int .i64 (oldN h.marks), .int .i64 (newN h.marks)]) ∧ Chg Never w w' := by
  obtain ⟨o, n, l⟩ := h
  simp only at hm ⊢
  obtain ⟨a, cap, rfl, h1, h2, h3⟩ := rdv_slice hm
  unfold maxLen at h2
  go_enter Tryz.func115, Tryz.ntmps115
  go_wp2
  go_loopw [2, 3, 9] (fun s2 s3 i wr => ∃ k : Nat, k ≤ l.length ∧ i = .int .i64 k ∧ s2 = .int .i64 (oldN (l.take k)) ∧ s3 = .int .i64 (newN (l.take k)) ∧ Chg Never w wr) (fun _ _ i _ => l.length - (intOf i).toNat)
  case atStart => exact ⟨0, Nat.zero_le _, rfl, rfl, rfl, (Chg.refl _ _).alloc _⟩
  case round =>
    obtain ⟨k, hk, rfl, rfl, rfl, hc⟩ := hrel
    by_cases hlt : k < l.length
    · obtain ⟨x, hx⟩ : ∃ x, l[k]? = some x := ⟨l[k], by simp [hlt]⟩
      obtain ⟨b, off, rfl, _, _, c0, c1, s0, s1, hxs⟩ := elems_mark h3 hx
      have c0 := hc.cellNever c0
      have c1 := hc.cellNever c1
      have HO := Lib.hid (oldN_take hx)
      have HN := Lib.hid (newN_take hx)
      have l1 : oldN (l.take k) ≤ k := Nat.le_trans (oldN_le _) (List.length_take_le _ _)
      have l2 : newN (l.take k) ≤ k := Nat.le_trans (newN_le _) (List.length_take_le _ _)
      clear hx h3 hm
      obtain ⟨sg, tx⟩ := x
      simp only at c0 c1 s0 s1 hxs
      by_cases h43 : sg = 43
      · subst h43
        go_wp2
        go_roundw
        case rel => exact ⟨k + 1, by omega, by go_num, by rw [HO.out]; rfl, by rw [HN.out]; go_num, hc.alloc _⟩
        case measure => simp [intOf] <;> omega
      · have t1 : (sg != 43) = true := by simp [h43]
        by_cases h45 : sg = 45
        · subst h45
          go_wp2
          go_roundw
          case rel => exact ⟨k + 1, by omega, by go_num, by rw [HO.out]; go_num, by rw [HN.out]; rfl, hc.alloc _⟩
          case measure => simp [intOf] <;> omega
        · have t2 : (sg != 45) = true := by simp [h45]
          have H43 := Lib.hid h43
          have H45 := Lib.hid h45
          clear h43 h45
          go_wp2
          go_roundw
          case rel => exact ⟨k + 1, by omega, by go_num, by rw [HO.out, if_neg H43.out]; go_num, by rw [HN.out, if_neg H45.out]; go_num, hc.alloc _⟩
          case measure => simp [intOf] <;> omega
    · go_wp2
      go_ret2
      exact ⟨by rw [List.take_of_length_le (by omega)]; rfl, hc⟩

theorem hasChange_take {l : List Mark} {k : Nat} {x : Mark} (hx : l[k]? = some x) (h : hasChange (l.take k) = false) : hasChange (l.take (k + 1)) = (!(x.sign == 32)) := by
  rw [List.take_add_one, hx]
  unfold hasChange at *
  rw [List.any_append, h]
  by_cases h1 : x.sign = 32 <;> simp [h1]
theorem hasChange_of {l : List Mark} {k : Nat} (h : hasChange (l.take k) = true) : hasChange l = true := by
  unfold hasChange at *
  rw [List.any_eq_true] at *
  obtain ⟨x, hx, hp⟩ := h
  exact ⟨x, List.mem_of_mem_take hx, hp⟩

def IdxPost (l : List Mark) (w : World) (e : Ending) (w' : World) : Prop := ∃ n : Int, e = .returned (.int .i64 n) ∧ -1 ≤ n ∧ decide (0 ≤ n) = hasChange l ∧ Chg Never w w'
theorem index_changed (l : List Mark) (v : Value) (w : World) (h : Rdv w Never v l) :
    Calls Tryz.prog 211 #[v, .func (.func 182) #[] #[]] w (IdxPost l w) := by
  obtain ⟨a, cap, rfl, h1, h2, h3⟩ := rdv_slice h
  unfold maxLen at h2
  go_enter Tryz.func211, Tryz.ntmps211
  go_wp2_with fail
  go_loopw [8] (fun i wr => ∃ k : Nat, k ≤ l.length ∧ i = .int .i64 k ∧ Hid (hasChange (l.take k) = false) ∧ Chg Never w wr) (fun i _ => l.length - (intOf i).toNat)
  case atStart => exact ⟨0, Nat.zero_le _, rfl, rfl, Chg.refl _ _⟩
  case round =>
    obtain ⟨k, hk, rfl, hf, hc⟩ := hrel
    by_cases hlt : k < l.length
    · obtain ⟨x, hx⟩ : ∃ x, l[k]? = some x := ⟨l[k], by simp [hlt]⟩
      obtain ⟨b, off, rfl, _, _, c0, c1, s0, s1, hxs⟩ := elems_mark h3 hx
      have c0 := hc.cellNever c0
      have c1 := hc.cellNever c1
      have HT := Lib.hid (hasChange_take hx hf.out)
      clear hx h3 h
      obtain ⟨sg, tx⟩ := x
      simp only at c0 c1 s0 s1 hxs
      by_cases h32 : sg = 32
      · subst h32
        go_wp2_with (go_at_call 182; refine (changed_any _ _ _).mono ?_; rintro e w2 ⟨rfl, hc2⟩)
        go_roundw
        case rel => exact ⟨k + 1, by omega, by go_num, by rw [Hid, HT.out]; rfl, hc.trans hc2⟩
        case measure => simp [intOf] <;> omega
      · have t1 : (sg == 32) = false := by simp [h32]
        go_wp2_with (go_at_call 182; refine (changed_any _ _ _).mono ?_; rintro e w2 ⟨rfl, hc2⟩)
        go_ret
        have E : hasChange l = true := hasChange_of (k := k + 1) (by rw [HT.out]; simp [h32])
        exact ⟨k, rfl, by omega, by rw [E]; simp, hc.trans hc2⟩
    · go_wp2_with fail
      go_ret
      have E : hasChange l = false := by have := hf.out; rwa [List.take_of_length_le (by omega)] at this
      exact ⟨-1, rfl, by omega, by rw [E]; rfl, hc⟩

theorem contains_changed (l : List Mark) (v : Value) (w : World) (h : Rdv w Never v l) :
    Calls Tryz.prog 181 #[v, .func (.func 182) #[] #[]] w fun e w' => e = .returned (.bool (hasChange l)) ∧ Chg Never w w' := by
  go_enter Tryz.func181, Tryz.ntmps181
  go_wp2_with fail
  refine (index_changed l _ _ h).mono ?_
  rintro e w1 ⟨n, rfl, hn, hd, hc⟩
  have HD := Lib.hid hd
  clear hd
  go_wp2_with fail
  go_ret
  exact ⟨by rw [← HD.out]; rfl, hc⟩
end Go.Proofs.YtjiaidchcldocaaGreatDoor
namespace Go.Proofs.YtjiaidchcldocaaGreatDoor
open Go.RowKit

theorem box3 {w w1 : World} {x y z : Value} {t : TypeId} (hc : Chg Never (w.alloc (.cells #[x, y, z] t)) w1) :
    w1.cell? ⟨w.heap.size, 0, none⟩ = some x ∧ w1.cell? ⟨w.heap.size, 1, none⟩ = some y ∧ w1.cell? ⟨w.heap.size, 2, none⟩ = some z := by
  refine ⟨hc.cellNever ?_, hc.cellNever ?_, hc.cellNever ?_⟩ <;> (simp only [World.cell?]; rw [heap_alloc_new]; rfl)


set_option maxHeartbeats 800000 in
theorem one_script (o n : Int) (l : List Mark) (mv : Value) (fin more : Int) (w : World) (hm : Rdv w Never mv l) (_f0 : -100000 ≤ fin) (_f1 : fin ≤ 100000) (_m0 : -100000 ≤ more) (_m1 : more ≤ 100000)
    (HZ : Hid (scriptFault l ≠ 0)) :
    Calls Tryz.prog 141 #[.agg #[.int .i64 o, .int .i64 n, mv], .int .i64 fin, .int .i64 more] w fun e w' => e = .returned (errV (oneFault ⟨o, n, l⟩ fin more)) ∧ Chg Never w w' := by
  go_enter Tryz.func141, Tryz.ntmps141
  go_wp2_with fail
  refine (edit_check_any l _ _ (hm.never ((Chg.refl _ _).alloc _))).mono ?_
  rintro e w1 ⟨rfl, hc1⟩
  obtain ⟨x0, x1, x2⟩ := box3 hc1
  have hw : Chg Never w w1 := ((Chg.refl _ _).alloc _).trans hc1
  rw [errV_pos HZ.out]
  go_wp2_with fail
  go_ret
  exact ⟨by unfold oneFault; rw [if_pos HZ.out, errV_pos HZ.out]; rfl, hw⟩

set_option maxHeartbeats 800000 in
theorem one_none (o n : Int) (l : List Mark) (mv : Value) (fin more : Int) (w : World) (hm : Rdv w Never mv l) (_f0 : -100000 ≤ fin) (_f1 : fin ≤ 100000) (_m0 : -100000 ≤ more) (_m1 : more ≤ 100000)
    (HZ : Hid (scriptFault l = 0)) (HC : Hid (hasChange l = false)) :
    Calls Tryz.prog 141 #[.agg #[.int .i64 o, .int .i64 n, mv], .int .i64 fin, .int .i64 more] w fun e w' => e = .returned (errV (oneFault ⟨o, n, l⟩ fin more)) ∧ Chg Never w w' := by
  go_enter Tryz.func141, Tryz.ntmps141
  go_wp2_with fail
  refine (edit_check_any l _ _ (hm.never ((Chg.refl _ _).alloc _))).mono ?_
  rintro e w1 ⟨rfl, hc1⟩
  obtain ⟨x0, x1, x2⟩ := box3 hc1
  have hw : Chg Never w w1 := ((Chg.refl _ _).alloc _).trans hc1
  rw [HZ.out, errV_zero]
  go_wp2_with fail
  refine (contains_changed l _ _ (hm.never hw)).mono ?_
  rintro e w2 ⟨rfl, hc2⟩
  obtain ⟨x0, x1, x2⟩ := box3 (hc1.trans hc2)
  have hw := hw.trans hc2
  rw [HC.out]
  go_wp2_with fail
  go_ret
  exact ⟨by unfold oneFault; rw [if_neg (fun h => h HZ.out), if_pos HC.out]; rfl, hw⟩

set_option maxHeartbeats 800000 in
theorem one_range (o n : Int) (l : List Mark) (mv : Value) (fin more : Int) (w : World) (hm : Rdv w Never mv l) (_f0 : -100000 ≤ fin) (_f1 : fin ≤ 100000) (_m0 : -100000 ≤ more) (_m1 : more ≤ 100000)
    (HZ : Hid (scriptFault l = 0)) (HC : Hid (hasChange l = true)) (HR : Hid (o < 0 ∨ 60 < o ∨ n < 0 ∨ 60 < n ∨ 60 < o + oldN l ∨ 60 < n + newN l)) :
    Calls Tryz.prog 141 #[.agg #[.int .i64 o, .int .i64 n, mv], .int .i64 fin, .int .i64 more] w fun e w' => e = .returned (errV (oneFault ⟨o, n, l⟩ fin more)) ∧ Chg Never w w' := by
  have E : oneFault ⟨o, n, l⟩ fin more = 1 := by
    unfold oneFault; rw [if_neg (fun h => h HZ.out), if_neg (by rw [HC.out]; decide), if_pos HR.out]
  rw [E]
  have hl := scriptFault_len HZ.out
  have l1 := oldN_le l
  have l2 := newN_le l
  clear E
  by_cases a1 : o < 0
  · go_enter Tryz.func141, Tryz.ntmps141
    go_wp2_with fail
    refine (edit_check_any l _ _ (hm.never ((Chg.refl _ _).alloc _))).mono ?_
    rintro e w1 ⟨rfl, hc1⟩
    obtain ⟨x0, x1, x2⟩ := box3 hc1
    have hw : Chg Never w w1 := ((Chg.refl _ _).alloc _).trans hc1
    rw [HZ.out, errV_zero]
    go_wp2_with fail
    refine (contains_changed l _ _ (hm.never hw)).mono ?_
    rintro e w2 ⟨rfl, hc2⟩
    obtain ⟨x0, x1, x2⟩ := box3 (hc1.trans hc2)
    have hw := hw.trans hc2
    rw [HC.out]
    go_wp2_with fail
    refine (size_any ⟨o, n, l⟩ mv _ (hm.never hw)).mono ?_
    rintro e w3 ⟨rfl, hc3⟩
    obtain ⟨x0, x1, x2⟩ := box3 ((hc1.trans hc2).trans hc3)
    have hw := hw.trans hc3
    clear hc1 hc2 hc3
    go_wp2_with fail
    go_ret
    exact ⟨rfl, hw⟩
  · by_cases a2 : 60 < o
    · go_enter Tryz.func141, Tryz.ntmps141
      go_wp2_with fail
      refine (edit_check_any l _ _ (hm.never ((Chg.refl _ _).alloc _))).mono ?_
      rintro e w1 ⟨rfl, hc1⟩
      obtain ⟨x0, x1, x2⟩ := box3 hc1
      have hw : Chg Never w w1 := ((Chg.refl _ _).alloc _).trans hc1
      rw [HZ.out, errV_zero]
      go_wp2_with fail
      refine (contains_changed l _ _ (hm.never hw)).mono ?_
      rintro e w2 ⟨rfl, hc2⟩
      obtain ⟨x0, x1, x2⟩ := box3 (hc1.trans hc2)
      have hw := hw.trans hc2
      rw [HC.out]
      go_wp2_with fail
      refine (size_any ⟨o, n, l⟩ mv _ (hm.never hw)).mono ?_
      rintro e w3 ⟨rfl, hc3⟩
      obtain ⟨x0, x1, x2⟩ := box3 ((hc1.trans hc2).trans hc3)
      have hw := hw.trans hc3
      clear hc1 hc2 hc3
      go_wp2_with fail
      go_ret
      exact ⟨rfl, hw⟩
    · by_cases a3 : n < 0
      · go_enter Tryz.func141, Tryz.ntmps141
        go_wp2_with fail
        refine (edit_check_any l _ _ (hm.never ((Chg.refl _ _).alloc _))).mono ?_
        rintro e w1 ⟨rfl, hc1⟩
        obtain ⟨x0, x1, x2⟩ := box3 hc1
        have hw : Chg Never w w1 := ((Chg.refl _ _).alloc _).trans hc1
        rw [HZ.out, errV_zero]
        go_wp2_with fail
        refine (contains_changed l _ _ (hm.never hw)).mono ?_
        rintro e w2 ⟨rfl, hc2⟩
        obtain ⟨x0, x1, x2⟩ := box3 (hc1.trans hc2)
        have hw := hw.trans hc2
        rw [HC.out]
        go_wp2_with fail
        refine (size_any ⟨o, n, l⟩ mv _ (hm.never hw)).mono ?_
        rintro e w3 ⟨rfl, hc3⟩
        obtain ⟨x0, x1, x2⟩ := box3 ((hc1.trans hc2).trans hc3)
        have hw := hw.trans hc3
        clear hc1 hc2 hc3
        go_wp2_with fail
        go_ret
        exact ⟨rfl, hw⟩
      · by_cases a4 : 60 < n
        · go_enter Tryz.func141, Tryz.ntmps141
          go_wp2_with fail
          refine (edit_check_any l _ _ (hm.never ((Chg.refl _ _).alloc _))).mono ?_
          rintro e w1 ⟨rfl, hc1⟩
          obtain ⟨x0, x1, x2⟩ := box3 hc1
          have hw : Chg Never w w1 := ((Chg.refl _ _).alloc _).trans hc1
          rw [HZ.out, errV_zero]
          go_wp2_with fail
          refine (contains_changed l _ _ (hm.never hw)).mono ?_
          rintro e w2 ⟨rfl, hc2⟩
          obtain ⟨x0, x1, x2⟩ := box3 (hc1.trans hc2)
          have hw := hw.trans hc2
          rw [HC.out]
          go_wp2_with fail
          refine (size_any ⟨o, n, l⟩ mv _ (hm.never hw)).mono ?_
          rintro e w3 ⟨rfl, hc3⟩
          obtain ⟨x0, x1, x2⟩ := box3 ((hc1.trans hc2).trans hc3)
          have hw := hw.trans hc3
          clear hc1 hc2 hc3
          go_wp2_with fail
          go_ret
          exact ⟨rfl, hw⟩
        · by_cases a5 : 60 < o + oldN l
          · go_enter Tryz.func141, Tryz.ntmps141
            go_wp2_with fail
            refine (edit_check_any l _ _ (hm.never ((Chg.refl _ _).alloc _))).mono ?_
            rintro e w1 ⟨rfl, hc1⟩
            obtain ⟨x0, x1, x2⟩ := box3 hc1
            have hw : Chg Never w w1 := ((Chg.refl _ _).alloc _).trans hc1
            rw [HZ.out, errV_zero]
            go_wp2_with fail
            refine (contains_changed l _ _ (hm.never hw)).mono ?_
            rintro e w2 ⟨rfl, hc2⟩
            obtain ⟨x0, x1, x2⟩ := box3 (hc1.trans hc2)
            have hw := hw.trans hc2
            rw [HC.out]
            go_wp2_with fail
            refine (size_any ⟨o, n, l⟩ mv _ (hm.never hw)).mono ?_
            rintro e w3 ⟨rfl, hc3⟩
            obtain ⟨x0, x1, x2⟩ := box3 ((hc1.trans hc2).trans hc3)
            have hw := hw.trans hc3
            clear hc1 hc2 hc3
            go_wp2_with fail
            go_ret
            exact ⟨rfl, hw⟩
          · have a6 : 60 < n + newN l := by have := HR.out; omega
            go_enter Tryz.func141, Tryz.ntmps141
            go_wp2_with fail
            refine (edit_check_any l _ _ (hm.never ((Chg.refl _ _).alloc _))).mono ?_
            rintro e w1 ⟨rfl, hc1⟩
            obtain ⟨x0, x1, x2⟩ := box3 hc1
            have hw : Chg Never w w1 := ((Chg.refl _ _).alloc _).trans hc1
            rw [HZ.out, errV_zero]
            go_wp2_with fail
            refine (contains_changed l _ _ (hm.never hw)).mono ?_
            rintro e w2 ⟨rfl, hc2⟩
            obtain ⟨x0, x1, x2⟩ := box3 (hc1.trans hc2)
            have hw := hw.trans hc2
            rw [HC.out]
            go_wp2_with fail
            refine (size_any ⟨o, n, l⟩ mv _ (hm.never hw)).mono ?_
            rintro e w3 ⟨rfl, hc3⟩
            obtain ⟨x0, x1, x2⟩ := box3 ((hc1.trans hc2).trans hc3)
            have hw := hw.trans hc3
            clear hc1 hc2 hc3
            go_wp2_with fail
            go_ret
            exact ⟨rfl, hw⟩

set_option maxHeartbeats 800000 in
theorem one_rest (o n : Int) (l : List Mark) (mv : Value) (fin more : Int) (w : World) (hm : Rdv w Never mv l) (_f0 : -100000 ≤ fin) (_f1 : fin ≤ 100000) (m0 : -100000 ≤ more) (m1 : more ≤ 100000)
    (HZ : Hid (scriptFault l = 0)) (HC : Hid (hasChange l = true)) (HR : ¬ (o < 0 ∨ 60 < o ∨ n < 0 ∨ 60 < n ∨ 60 < o + oldN l ∨ 60 < n + newN l)) :
    Calls Tryz.prog 141 #[.agg #[.int .i64 o, .int .i64 n, mv], .int .i64 fin, .int .i64 more] w fun e w' => e = .returned (errV (oneFault ⟨o, n, l⟩ fin more)) ∧ Chg Never w w' := by
  have E : oneFault ⟨o, n, l⟩ fin more = if o < fin ∨ n ≠ o + more then 2 else 0 := by
    unfold oneFault; rw [if_neg (fun h => h HZ.out), if_neg (by rw [HC.out]; decide), if_neg HR]
  rw [E]
  have hl := scriptFault_len HZ.out
  have l1 := oldN_le l
  have l2 := newN_le l
  clear E
  have a1 : 0 ≤ o := by omega
  have a2 : o ≤ 60 := by omega
  have a3 : 0 ≤ n := by omega
  have a4 : n ≤ 60 := by omega
  have a5 : o + oldN l ≤ 60 := by omega
  have a6 : n + newN l ≤ 60 := by omega
  clear HR
  by_cases b1 : o < fin
  · rw [if_pos (.inl b1)]
    go_enter Tryz.func141, Tryz.ntmps141
    go_wp2_with fail
    refine (edit_check_any l _ _ (hm.never ((Chg.refl _ _).alloc _))).mono ?_
    rintro e w1 ⟨rfl, hc1⟩
    obtain ⟨x0, x1, x2⟩ := box3 hc1
    have hw : Chg Never w w1 := ((Chg.refl _ _).alloc _).trans hc1
    rw [HZ.out, errV_zero]
    go_wp2_with fail
    refine (contains_changed l _ _ (hm.never hw)).mono ?_
    rintro e w2 ⟨rfl, hc2⟩
    obtain ⟨x0, x1, x2⟩ := box3 (hc1.trans hc2)
    have hw := hw.trans hc2
    rw [HC.out]
    go_wp2_with fail
    refine (size_any ⟨o, n, l⟩ mv _ (hm.never hw)).mono ?_
    rintro e w3 ⟨rfl, hc3⟩
    obtain ⟨x0, x1, x2⟩ := box3 ((hc1.trans hc2).trans hc3)
    have hw := hw.trans hc3
    clear hc1 hc2 hc3
    go_wp2_with fail
    go_ret
    exact ⟨rfl, hw⟩
  · by_cases b2 : n = o + more
    · rw [if_neg (by omega)]
      have t1 : (n != o + more) = false := by simp [b2]
      clear b2
      go_enter Tryz.func141, Tryz.ntmps141
      go_wp2_with fail
      refine (edit_check_any l _ _ (hm.never ((Chg.refl _ _).alloc _))).mono ?_
      rintro e w1 ⟨rfl, hc1⟩
      obtain ⟨x0, x1, x2⟩ := box3 hc1
      have hw : Chg Never w w1 := ((Chg.refl _ _).alloc _).trans hc1
      rw [HZ.out, errV_zero]
      go_wp2_with fail
      refine (contains_changed l _ _ (hm.never hw)).mono ?_
      rintro e w2 ⟨rfl, hc2⟩
      obtain ⟨x0, x1, x2⟩ := box3 (hc1.trans hc2)
      have hw := hw.trans hc2
      rw [HC.out]
      go_wp2_with fail
      refine (size_any ⟨o, n, l⟩ mv _ (hm.never hw)).mono ?_
      rintro e w3 ⟨rfl, hc3⟩
      obtain ⟨x0, x1, x2⟩ := box3 ((hc1.trans hc2).trans hc3)
      have hw := hw.trans hc3
      clear hc1 hc2 hc3
      go_wp2_with fail
      go_ret
      exact ⟨rfl, hw⟩
    · rw [if_pos (.inr b2)]
      have t1 : (n != o + more) = true := by simp [b2]
      clear b2
      go_enter Tryz.func141, Tryz.ntmps141
      go_wp2_with fail
      refine (edit_check_any l _ _ (hm.never ((Chg.refl _ _).alloc _))).mono ?_
      rintro e w1 ⟨rfl, hc1⟩
      obtain ⟨x0, x1, x2⟩ := box3 hc1
      have hw : Chg Never w w1 := ((Chg.refl _ _).alloc _).trans hc1
      rw [HZ.out, errV_zero]
      go_wp2_with fail
      refine (contains_changed l _ _ (hm.never hw)).mono ?_
      rintro e w2 ⟨rfl, hc2⟩
      obtain ⟨x0, x1, x2⟩ := box3 (hc1.trans hc2)
      have hw := hw.trans hc2
      rw [HC.out]
      go_wp2_with fail
      refine (size_any ⟨o, n, l⟩ mv _ (hm.never hw)).mono ?_
      rintro e w3 ⟨rfl, hc3⟩
      obtain ⟨x0, x1, x2⟩ := box3 ((hc1.trans hc2).trans hc3)
      have hw := hw.trans hc3
      clear hc1 hc2 hc3
      go_wp2_with fail
      go_ret
      exact ⟨rfl, hw⟩

theorem one_hunk (h : Hunk) (mv : Value) (fin more : Int) (w : World) (hm : Rdv w Never mv h.marks) (f0 : -100000 ≤ fin) (f1 : fin ≤ 100000) (m0 : -100000 ≤ more) (m1 : more ≤ 100000) :
    Calls Tryz.prog 141 #[.agg #[.int .i64 h.old, .int .i64 h.new, mv], .int .i64 fin, .int .i64 more] w fun e w' => e = .returned (errV (oneFault h fin more)) ∧ Chg Never w w' := by
  obtain ⟨o, n, l⟩ := h
  by_cases hz : scriptFault l = 0
  · by_cases hc : hasChange l = true
    · by_cases hr : o < 0 ∨ 60 < o ∨ n < 0 ∨ 60 < n ∨ 60 < o + oldN l ∨ 60 < n + newN l
      · exact one_range o n l mv fin more w hm f0 f1 m0 m1 hz hc hr
      · exact one_rest o n l mv fin more w hm f0 f1 m0 m1 hz hc hr
    · exact one_none o n l mv fin more w hm f0 f1 m0 m1 hz (by simpa [Hid] using hc)
  · exact one_script o n l mv fin more w hm f0 f1 m0 m1 hz
end Go.Proofs.YtjiaidchcldocaaGreatDoor
namespace Go.Proofs.YtjiaidchcldocaaGreatDoor
open Go.RowKit

theorem elems_hunk {w : World} {O : Nat → Prop} {a : Option Addr} {l : List Hunk} (h : Elems w O a l) {i : Nat} {x : Hunk} (hx : l[i]? = some x) :
    ∃ b off mv, a = some ⟨b, off, none⟩ ∧ ¬ O b ∧ b < w.heap.size ∧ w.cell? ⟨b, off + i * 3, none⟩ = some (.int .i64 x.old) ∧ w.cell? ⟨b, off + i * 3 + 1, none⟩ = some (.int .i64 x.new) ∧ w.cell? ⟨b, off + i * 3 + 2, none⟩ = some mv ∧ Rdv w O mv x.marks := by
  obtain ⟨b, off, es, ha, hb, hcs, mv, rfl, hs⟩ := h i x hx
  refine ⟨b, off, mv, ha, hb, hcs.lt (by simp), ?_, ?_, ?_, hs⟩
  · simpa [Dat.n] using hcs 0 _ rfl
  · simpa [Dat.n] using hcs 1 _ rfl
  · simpa [Dat.n] using hcs 2 _ rfl

theorem hunksGo_drop {l : List Hunk} {k : Nat} {x : Hunk} {i : Nat} {fin more : Int} (hx : l[k]? = some x) :
    hunksGo i fin more (l.drop k) = if oneFault x fin more = 0 then hunksGo (i + 1) (x.old + oldN x.marks) (more + newN x.marks - oldN x.marks) (l.drop (k + 1)) else (i, oneFault x fin more) := by
  rw [drop_eq hx, hunksGo]
theorem oneFault_zero {h : Hunk} {fin more : Int} (e : oneFault h fin more = 0) : scriptFault h.marks = 0 ∧ hasChange h.marks = true ∧ 0 ≤ h.old ∧ 0 ≤ h.new ∧ h.old + oldN h.marks ≤ 60 ∧ h.new + newN h.marks ≤ 60 ∧ fin ≤ h.old ∧ h.new = h.old + more := by
  unfold oneFault at e
  by_cases h1 : scriptFault h.marks ≠ 0
  · rw [if_pos h1] at e; exact absurd e h1
  · rw [if_neg h1] at e
    by_cases h2 : hasChange h.marks = false
    · rw [if_pos h2] at e; simp at e
    · rw [if_neg h2] at e
      by_cases h3 : h.old < 0 ∨ 60 < h.old ∨ h.new < 0 ∨ 60 < h.new ∨ 60 < h.old + oldN h.marks ∨ 60 < h.new + newN h.marks
      · rw [if_pos h3] at e; simp at e
      · rw [if_neg h3] at e
        by_cases h4 : h.old < fin ∨ h.new ≠ h.old + more
        · rw [if_pos h4] at e; simp at e
        · refine ⟨by simpa using h1, by simpa using h2, ?_⟩
          omega

set_option maxHeartbeats 800000 in
theorem hunk_check_any (l : List Hunk) (v : Value) (w : World) (h : Rdv w Never v l) :
    Calls Tryz.prog 93 #[v] w fun e w' => e = .returned (.tuple #[.int .i64 (hunksFault l).1, errV (hunksFault l).2]) ∧ Chg Never w w' := by
  obtain ⟨a, cap, rfl, h1, h2, h3⟩ := rdv_slice h
  unfold maxLen at h2
  by_cases h4 : 60 < l.length
  · have E : hunksFault l = (0, 3) := if_pos h4
    rw [E]
    clear E
    go_enter Tryz.func93, Tryz.ntmps93
    go_wp2_with fail
    go_ret2
    exact ⟨rfl, Chg.refl _ _⟩
  · have HE : Hid (hunksFault l = hunksGo 0 0 0 l) := if_neg h4
    go_enter Tryz.func93, Tryz.ntmps93
    go_wp2_with fail
    go_loopw [4, 5, 17] (fun s4 s5 i wr => ∃ (k : Nat) (fin more : Int), k ≤ l.length ∧ i = .int .i64 k ∧ s4 = .int .i64 fin ∧ s5 = .int .i64 more ∧ 0 ≤ fin ∧ fin ≤ 60 ∧ -60 ≤ more ∧ more ≤ 60 ∧ Hid (hunksGo k fin more (l.drop k) = hunksFault l) ∧ Chg Never w wr) (fun _ _ i _ => l.length - (intOf i).toNat)
    case atStart => exact ⟨0, 0, 0, Nat.zero_le _, rfl, rfl, rfl, by omega, by omega, by omega, by omega, HE.out.symm, Chg.refl _ _⟩
    case round =>
      obtain ⟨k, fin, more, hk, rfl, rfl, rfl, f0, f1, m0, m1, hf, hc⟩ := hrel
      by_cases hlt : k < l.length
      · obtain ⟨x, hx⟩ : ∃ x, l[k]? = some x := ⟨l[k], by simp [hlt]⟩
        obtain ⟨b, off, mv, rfl, _, _, c0, c1, c2, hmv⟩ := elems_hunk h3 hx
        have c0 := hc.cellNever c0
        have c1 := hc.cellNever c1
        have c2 := hc.cellNever c2
        have hmv := hmv.never hc
        obtain ⟨ma, mcap, rfl, _, _, _⟩ := rdv_slice hmv
        have HG := Lib.hid (hunksGo_drop (i := k) (fin := fin) (more := more) hx)
        clear hx h3 h
        by_cases hz : oneFault x fin more = 0
        · have hzz := oneFault_zero hz
          have HZ := Lib.hid hz
          obtain ⟨z1, z2, z3, z4, z5, z6, z7, z8⟩ := hzz
          have Z8 := Lib.hid z8
          have l1 := oldN_le x.marks
          have l2 := newN_le x.marks
          clear hz z1 z2 z8
          go_wp2_with fail
          refine (one_hunk x _ fin more _ (hmv.never ((Chg.refl _ _).alloc _)) (by omega) (by omega) (by omega) (by omega)).mono ?_
          rintro e w1 ⟨rfl, hc1⟩
          obtain ⟨x0, x1, x2⟩ := box3 hc1
          have hmv1 := (hmv.never ((Chg.refl _ _).alloc _)).never hc1
          rw [HZ.out, errV_zero]
          go_wp2_with fail
          refine (size_any x _ _ hmv1).mono ?_
          rintro e w2 ⟨rfl, hc2⟩
          obtain ⟨x0, x1, x2⟩ := box3 (hc1.trans hc2)
          have hw := (hc.alloc _).trans (hc1.trans hc2)
          clear hc1 hc2
          go_wp2_with fail
          go_roundw
          case rel => exact ⟨k + 1, x.old + oldN x.marks, more + newN x.marks - oldN x.marks, by omega, by go_num, rfl, rfl, by omega, by omega, by have := Z8.out; omega, by have := Z8.out; omega, by have := hf.out; rw [HG.out, if_pos HZ.out] at this; exact this, hw⟩
          case measure => simp [intOf] <;> omega
        · have HZ := Lib.hid hz
          clear hz
          go_wp2_with fail
          refine (one_hunk x _ fin more _ (hmv.never ((Chg.refl _ _).alloc _)) (by omega) (by omega) (by omega) (by omega)).mono ?_
          rintro e w1 ⟨rfl, hc1⟩
          have hw := (hc.alloc _).trans hc1
          clear hc1
          rw [errV_pos HZ.out]
          go_wp2_with fail
          go_ret2
          have E : hunksFault l = (k, oneFault x fin more) := by have := hf.out; rw [HG.out, if_neg HZ.out] at this; exact this.symm
          exact ⟨by rw [E]; show _ = Ending.returned (.tuple #[.int .i64 (k : Int), errV (oneFault x fin more)]); rw [errV_pos HZ.out]; rfl, hw⟩
      · go_wp2_with fail
        go_ret2
        have E : hunksFault l = (0, 0) := by have := hf.out; rw [List.drop_of_length_le (by omega), hunksGo] at this; exact this.symm
        exact ⟨by rw [E]; rfl, hc⟩
end Go.Proofs.YtjiaidchcldocaaGreatDoor
namespace Go.Proofs.YtjiaidchcldocaaGreatDoor
open Go.RowKit

theorem box3' {w w1 : World} {x y z x' y' z' : Value} {t t' : TypeId} (hc : Chg Never ((w.alloc (.cells #[x, y, z] t)).alloc (.cells #[x', y', z'] t')) w1) :
    (w1.cell? ⟨w.heap.size, 0, none⟩ = some x ∧ w1.cell? ⟨w.heap.size, 1, none⟩ = some y ∧ w1.cell? ⟨w.heap.size, 2, none⟩ = some z) ∧
    (w1.cell? ⟨w.heap.size + 1, 0, none⟩ = some x' ∧ w1.cell? ⟨w.heap.size + 1, 1, none⟩ = some y' ∧ w1.cell? ⟨w.heap.size + 1, 2, none⟩ = some z') := by
  have h1 := box3 (((Chg.refl Never _).alloc (.cells #[x', y', z'] t')).trans hc)
  have h2 := box3 hc
  simp only [World.size_alloc] at h2
  exact ⟨h1, h2⟩


theorem hunk_eq_any (h k : Hunk) (hv kv : Value) (w : World) (hh : Rdv w Never hv h.marks) (hk : Rdv w Never kv k.marks) :
    Calls Tryz.prog 112 #[.agg #[.int .i64 h.old, .int .i64 h.new, hv], .agg #[.int .i64 k.old, .int .i64 k.new, kv]] w fun e w' => e = .returned (.bool (decide (h = k))) ∧ Chg Never w w' := by
  obtain ⟨a, cap, rfl, _, _, _⟩ := rdv_slice hh
  obtain ⟨b, cap', rfl, _, _, _⟩ := rdv_slice hk
  have E : decide (h = k) = (decide (h.marks = k.marks) && h.old == k.old && h.new == k.new) := by
    obtain ⟨ho, hn, hm⟩ := h
    obtain ⟨ko, kn, km⟩ := k
    by_cases h1 : ho = ko <;> by_cases h2 : hn = kn <;> by_cases h3 : hm = km <;> simp [h1, h2, h3]
  rw [E]
  clear E
  by_cases hm : h.marks = k.marks
  · rw [decide_eq_true hm]
    have HM := Lib.hid (decide_eq_true hm)
    clear hm
    by_cases ho : h.old = k.old
    · have t1 : (h.old == k.old) = true := by simp [ho]
      rw [t1]
      clear ho
      go_enter Tryz.func112, Tryz.ntmps112
      go_wp2_with fail
      refine (marks_any h.marks k.marks _ _ _ (hh.never (((Chg.refl _ _).alloc _).alloc _)) (hk.never (((Chg.refl _ _).alloc _).alloc _))).mono ?_
      rintro e w1 ⟨rfl, hc1⟩
      obtain ⟨⟨x0, x1, x2⟩, ⟨y0, y1, y2⟩⟩ := box3' hc1
      have hw : Chg Never w w1 := (((Chg.refl _ _).alloc _).alloc _).trans hc1
      clear hc1
      rw [HM.out]
      go_wp2_with fail
      go_ret
      exact ⟨rfl, hw⟩
    · have t1 : (h.old == k.old) = false := by simp [ho]
      rw [t1]
      clear ho
      go_enter Tryz.func112, Tryz.ntmps112
      go_wp2_with fail
      refine (marks_any h.marks k.marks _ _ _ (hh.never (((Chg.refl _ _).alloc _).alloc _)) (hk.never (((Chg.refl _ _).alloc _).alloc _))).mono ?_
      rintro e w1 ⟨rfl, hc1⟩
      obtain ⟨⟨x0, x1, x2⟩, ⟨y0, y1, y2⟩⟩ := box3' hc1
      have hw : Chg Never w w1 := (((Chg.refl _ _).alloc _).alloc _).trans hc1
      clear hc1
      rw [HM.out]
      go_wp2_with fail
      go_ret
      exact ⟨rfl, hw⟩
  · rw [decide_eq_false hm]
    have HM := Lib.hid (decide_eq_false hm)
    clear hm
    go_enter Tryz.func112, Tryz.ntmps112
    go_wp2_with fail
    refine (marks_any h.marks k.marks _ _ _ (hh.never (((Chg.refl _ _).alloc _).alloc _)) (hk.never (((Chg.refl _ _).alloc _).alloc _))).mono ?_
    rintro e w1 ⟨rfl, hc1⟩
    obtain ⟨⟨x0, x1, x2⟩, ⟨y0, y1, y2⟩⟩ := box3' hc1
    have hw : Chg Never w w1 := (((Chg.refl _ _).alloc _).alloc _).trans hc1
    clear hc1
    rw [HM.out]
    go_wp2_with fail
    go_ret
    exact ⟨rfl, hw⟩

set_option maxRecDepth 100000 in
theorem hunks_eq_any (l m : List Hunk) (v u : Value) (w : World) (h : Rdv w Never v l) (g : Rdv w Never u m) :
    Calls Tryz.prog 69 #[v, u] w fun e w' => e = .returned (.bool (decide (l = m))) ∧ Chg Never w w' := by
  obtain ⟨a, cap, rfl, h1, h2, h3⟩ := rdv_slice h
  obtain ⟨c, cap', rfl, g1, g2, g3⟩ := rdv_slice g
  unfold maxLen at h2 g2
  by_cases h4 : l.length = m.length
  · have h4' : ((l.length : Int) != m.length) = false := by simp [h4]
    have H4 := Lib.hid h4
    clear h4
    go_enter Tryz.func69, Tryz.ntmps69
    go_wp2
    go_loopw [5] (fun i wr => ∃ k : Nat, k ≤ l.length ∧ i = .int .i64 k ∧ Hid (l.take k = m.take k) ∧ Chg Never w wr) (fun i _ => l.length - (intOf i).toNat)
    case atStart => exact ⟨0, Nat.zero_le _, rfl, by simp [Hid], Chg.refl _ _⟩
    case round =>
      obtain ⟨k, hk, rfl, hf, hc⟩ := hrel
      by_cases hlt : k < l.length
      · obtain ⟨x, hx⟩ : ∃ x, l[k]? = some x := ⟨l[k], by simp [hlt]⟩
        obtain ⟨y, hy⟩ : ∃ y, m[k]? = some y := ⟨m[k]'(by rw [← H4.out]; exact hlt), by simp [H4.out ▸ hlt]⟩
        obtain ⟨b, off, mv, rfl, _, _, c0, c1, c2, hmv⟩ := elems_hunk h3 hx
        obtain ⟨b', off', mv', rfl, _, _, d0, d1, d2, hmv'⟩ := elems_hunk g3 hy
        have c0 := hc.cellNever c0
        have c1 := hc.cellNever c1
        have c2 := hc.cellNever c2
        have d0 := hc.cellNever d0
        have d1 := hc.cellNever d1
        have d2 := hc.cellNever d2
        have hmv := hmv.never hc
        have hmv' := hmv'.never hc
        clear h3 g3 h g
        have hlm : k < m.length := by rw [← H4.out]; exact hlt
        have HX := Lib.hid hx
        have HY := Lib.hid hy
        clear hx hy
        have b1 : (k : Int) < l.length := by omega
        have b2 : (k : Int) < m.length := by omega
        go_wp2_with fail
        refine wp_region_still_tail 8 (by kernel_rfl) (by kernel_rfl) ?_
        simp only [List.take_succ_cons, List.take_zero, List.drop_succ_cons, List.drop_zero]
        change wpStill _ _ wr.drew _ _ _
        repeat still_step
        refine wpStill_nil ?_
        change wpList _ _ _ _ _ wr.drew
        have hcd : Chg Never w wr.drew := hc.drew
        have hmd := hmv.never ((Chg.refl Never wr).drew)
        have hmd' := hmv'.never ((Chg.refl Never wr).drew)
        generalize wr.drew = w3 at hcd hmd hmd'
        go_wp2_with fail
        refine (hunk_eq_any x y _ _ _ hmd hmd').mono ?_
        rintro e w4 ⟨rfl, hc4⟩
        have hc5 := hcd.trans hc4
        by_cases hxy : x = y
        · subst hxy
          rw [decide_eq_true rfl]
          go_wp2_with fail
          go_roundw
          case rel => exact ⟨k + 1, by omega, by go_num, take_same hf HX.out HY.out, hc5⟩
          case measure => simp [intOf] <;> omega
        · rw [decide_eq_false hxy]
          go_wp2_with fail
          go_ret
          exact ⟨by rw [decide_eq_false (ne_of_get HX.out HY.out hxy)]; rfl, hc5⟩
      · go_wp2
        go_ret
        have E : l = m := by
          have := hf.out
          rwa [List.take_of_length_le (by omega), List.take_of_length_le (by rw [← H4.out]; omega)] at this
        exact ⟨by rw [decide_eq_true E]; rfl, hc⟩
  · have h4' : ((l.length : Int) != m.length) = true := by simp; omega
    go_enter Tryz.func69, Tryz.ntmps69
    go_wp2
    go_ret
    exact ⟨by rw [decide_eq_false (fun e => h4 (by rw [e]))]; rfl, Chg.refl _ _⟩
end Go.Proofs.YtjiaidchcldocaaGreatDoor
namespace Go.Proofs.YtjiaidchcldocaaGreatDoor

def isChange (m : Mark) : Bool := !(m.sign == 32)
def inAt (s : List Mark) (n : Int) (k : Nat) : Bool := (List.range s.length).any fun i => (s[i]?.any isChange) && decide ((k : Int) ≤ i + n) && decide ((i : Int) ≤ k + n)
def pushLast (out : List Hunk) (m : Mark) : List Hunk :=
  match out.getLast? with
  | some h => out.dropLast ++ [{ h with marks := h.marks ++ [m] }]
  | none => out
def cutStep (out : List Hunk) (was inn : Bool) (before after : Nat) (m : Mark) : List Hunk :=
  if inn then pushLast (if was then out else out ++ [⟨before, after, []⟩]) m else out
def cutTo (s : List Mark) (n : Int) : Nat → List Hunk
  | 0 => []
  | k + 1 => match s[k]? with
    | some m => cutStep (cutTo s n k) (decide (0 < k) && inAt s n (k - 1)) (inAt s n k) (oldN (s.take k)) (newN (s.take k)) m
    | none => cutTo s n k
def cutOf (s : List Mark) (n : Int) : List Hunk := cutTo s n s.length
end Go.Proofs.YtjiaidchcldocaaGreatDoor
