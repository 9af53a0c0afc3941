/-
  PARTS: THE WALKS of the document's Dec and span (handstitchref2).; THE WALKS of the document's Starts, Ends (light: no function of layers 1 to 9).; THE LAW RunGoes, walked.
-/
import Derived.Test.YtmjpfoeaobdaeaaGreatDoorPr11
import Derived.Test.YtmjpfoeaobdaeaaGreatDoorPr2
import Derived.Test.YtmjpfoeaobdaeaaGreatDoorPr17
set_option linter.unusedVariables false
set_option linter.unusedSimpArgs false
namespace Go.Proofs.YtmjpfoeaobdaeaaGreatDoor
open Go.RowKit

def digitsB : ByteArray := ⟨#[48, 49, 50, 51, 52, 53, 54, 55, 56, 57]⟩
theorem digits_size : digitsB.size = 10 := rfl
theorem digit_fin : ∀ k : Fin 10, digitsB.extract k.1 (k.1 + 1) = toB [UInt8.ofNat (48 + k.1)] := by decide +kernel
theorem digit_slice {N : Nat} (hN : N < 10) (w : World) : (Instr.slice 9 (.string digitsB) (some (.int .i64 (N : Int))) (some (.int .i64 ((N : Int) + 1))) none).run Tryz.prog w = .ok (.string (toB [UInt8.ofNat (48 + N)])) w := by
  rw [run_slice_string_if (h := Tryz.underlying9), if_pos ⟨by omega, by rw [digits_size]; omega⟩, if_pos ⟨by omega, by omega⟩, ← digit_fin ⟨N, hN⟩]
  rfl
theorem dec_small {k : Nat} (h : k < 10) : Lib.decDigits k = [UInt8.ofNat (48 + k)] := by rw [Lib.decDigits, dif_pos h]
theorem dec_big {k : Nat} (h : ¬ k < 10) : Lib.decDigits k = Lib.decDigits (k / 10) ++ [UInt8.ofNat (48 + k % 10)] := by conv => lhs; rw [Lib.decDigits, dif_neg h]
theorem toB_cat (a b : List UInt8) : toB a ++ toB b = toB (a ++ b) := by
  apply ByteArray.ext
  apply Array.toList_inj.1
  rw [bytes_append, toB_data, toB_data, toB_data]

set_option maxHeartbeats 1000000 in
set_option maxRecDepth 100000 in
theorem dec_any (n : Nat) (hn : n < 1000000) (w : World) :
    Calls Tryz.prog 8 #[.int .i64 n] w fun e w' => e = .returned (.string (toB (Lib.decDigits n))) ∧ w = w' := by
  go_enter Tryz.func8, Tryz.ntmps8
  go_wp2_with fail
  go_loop [0, 3] (fun nv sv => ∃ (k : Nat) (acc : List UInt8), nv = .int .i64 k ∧ sv = .string (toB acc) ∧ acc.length + k ≤ n ∧ Hid (Lib.decDigits k ++ acc = Lib.decDigits n)) (fun nv _ => (intOf nv).toNat)
  case atStart => exact ⟨n, [], rfl, rfl, by simp, by rw [Hid, List.append_nil]⟩
  case round =>
    obtain ⟨k, acc, rfl, rfl, hk, hI⟩ := hrel
    by_cases hb : k < 10
    · have hrun := digit_slice (N := k) hb
      have HR : Hid (toB [UInt8.ofNat (48 + k)] ++ toB acc = toB (Lib.decDigits n)) := by rw [Hid, toB_cat, ← dec_small hb, hI.out]
      have s1 : IntKind.i64.wrap ((k : Int) + 1) = (k : Int) + 1 := IntWalk.i64_in _ (by omega)
      have z1 : ¬ (9223372036854775807 < (toB [UInt8.ofNat (48 + k)]).size + (toB acc).size) := by rw [toB_size', toB_size']; simp; omega
      unfold digitsB at hrun
      generalize toB [UInt8.ofNat (48 + k)] = D at hrun HR z1
      clear hI
      go_wp2_with fail
      go_ret
      exact ⟨by rw [← HR.out]; rfl, rfl⟩
    · have hrun := digit_slice (N := k % 10) (by omega)
      have HR : Hid (toB [UInt8.ofNat (48 + k % 10)] ++ toB acc = toB (UInt8.ofNat (48 + k % 10) :: acc)) := by rw [Hid, toB_cat]; rfl
      have hI2 : Hid (Lib.decDigits (k / 10) ++ (UInt8.ofNat (48 + k % 10) :: acc) = Lib.decDigits n) := by
        have := hI.out
        rw [dec_big hb, List.append_assoc] at this
        exact this
      have z1 : ¬ (9223372036854775807 < (toB [UInt8.ofNat (48 + k % 10)]).size + (toB acc).size) := by rw [toB_size', toB_size']; simp; omega
      have hlen : (UInt8.ofNat (48 + k % 10) :: acc).length + k / 10 ≤ n := by rw [List.length_cons]; omega
      unfold digitsB at hrun
      rw [show (((k % 10 : Nat)) : Int) = (k : Int) % 10 by omega] at hrun
      generalize toB [UInt8.ofNat (48 + k % 10)] = D at hrun HR z1
      have s1 : IntKind.i64.wrap ((k : Int) % 10 + 1) = (k : Int) % 10 + 1 := IntWalk.i64_in _ (by omega)
      clear hI
      go_wp2_with fail
      go_round
      case rel => exact ⟨k / 10, _, by go_num, by rw [HR.out], hlen, hI2⟩
      case measure => simp [intOf]; omega
end Go.Proofs.YtmjpfoeaobdaeaaGreatDoor
namespace Go.Proofs.YtmjpfoeaobdaeaaGreatDoor
open Go.RowKit

set_option maxHeartbeats 1000000 in
set_option maxRecDepth 100000 in
theorem ends_any (s p : ByteArray) (w : World) (hs : s.size ≤ 1000000000) (hp : p.size ≤ 1000000000) :
    Calls Tryz.prog 9 #[.string s, .string p] w fun e w' => e = .returned (.bool (p.data.toList.isSuffixOf s.data.toList)) ∧ w' = w := by
  by_cases h : p.size ≤ s.size
  · have t1 : decide ((p.size : Int) ≤ (s.size : Int)) = true := decide_eq_true (by omega)
    have hb : ((s.extract (s.size - p.size) s.size).toList == p.toList) = p.data.toList.isSuffixOf s.data.toList := by
      rw [Lib.toList_data, Lib.toList_data, Lib.extract_data, Lib.size_eq s, Lib.size_eq p]
      rw [List.take_of_length_le (by rw [List.length_drop]; omega)]
      rw [Bool.eq_iff_iff, beq_iff_eq, List.isSuffixOf_iff_suffix]
      constructor
      · intro e
        refine ⟨s.data.toList.take (s.data.toList.length - p.data.toList.length), ?_⟩
        conv => lhs; rhs; rw [← e]
        exact List.take_append_drop _ _
      · rintro ⟨t, e⟩
        rw [← e, List.length_append, Nat.add_sub_cancel, List.drop_left]
    have hsub : ((s.size : Int) - (p.size : Int)) = ((s.size - p.size : Nat) : Int) := by omega
    have HS := Lib.hid hsub
    clear hsub
    cases hx : p.data.toList.isSuffixOf s.data.toList with
    | true =>
      rw [hx] at hb
      go_enter Tryz.func9, Tryz.ntmps9
      go_wp2_with fail
      go_ret
      exact ⟨rfl, rfl⟩
    | false =>
      rw [hx] at hb
      go_enter Tryz.func9, Tryz.ntmps9
      go_wp2_with fail
      go_ret
      exact ⟨rfl, rfl⟩
  · have t1 : decide ((p.size : Int) ≤ (s.size : Int)) = false := decide_eq_false (by omega)
    have hx : Hid (p.data.toList.isSuffixOf s.data.toList = false) := by
      rw [Hid, Bool.eq_false_iff, ne_eq, List.isSuffixOf_iff_suffix]
      intro e
      have := e.length_le
      rw [← Lib.size_eq, ← Lib.size_eq] at this
      omega
    go_enter Tryz.func9, Tryz.ntmps9
    go_wp2_with fail
    go_ret
    exact ⟨by rw [hx.out]; rfl, rfl⟩
end Go.Proofs.YtmjpfoeaobdaeaaGreatDoor
namespace Go.Proofs.YtmjpfoeaobdaeaaGreatDoor
open Go.RowKit

theorem linesR_len : ∀ (k : Nat) (r : List UInt8), r.length ≤ k → (linesR r).length ≤ r.length
  | k, r, hk => by
    by_cases h : r = []
    · subst h; rw [linesR_nil]; exact Nat.le_refl _
    · obtain ⟨e, hlt⟩ := linesR_step h
      cases k with
      | zero => exact absurd (List.length_eq_zero_iff.1 (by omega)) h
      | succ k =>
        have := linesR_len k (cutB [10] r) (by omega)
        rw [e, List.length_cons]
        omega
theorem goTail_len {n : Nat} (hn : n ≤ 1000) : (goTail n).length ≤ 40 := by
  have := (digits_len n 3 (by omega)).1
  unfold goTail
  simp only [List.length_append, List.length_cons, List.length_nil, goW, sameW, diffW]
  omega
theorem goes_run {a : List UInt8} (h : Whole a) (ha : a.length ≤ 1220) {n : Nat} (hn : n ≤ 1000) :
    (toB (runA (a ++ goTail n))).size ≤ 1000000000 ∧ (toB [111, 107, 10, 121, 101, 115, 10, 111, 107, 10]).data.toList.isSuffixOf (toB (runA (a ++ goTail n))).data.toList = true := by
  have ht := goTail_len hn
  have e : runA (a ++ goTail n) = runOut (a ++ goTail n) := by unfold runA; rw [if_neg (by rw [List.length_append]; omega)]
  constructor
  · rw [toB_sz, e]
    unfold runOut
    have h1 := runL_len (linesR (a ++ goTail n)) empty_ok
    have h2 := linesR_len _ _ (Nat.le_refl (a ++ goTail n).length)
    have h3 : 362900 * (linesR (a ++ goTail n)).length ≤ 362900 * 1260 := Nat.mul_le_mul_left _ (by rw [List.length_append] at h2; omega)
    omega
  · rw [e, run_goes h hn, toB_data, toB_data, List.isSuffixOf_iff_suffix]
    exact ⟨_, rfl⟩
theorem goes_text (a : List UInt8) (n : Nat) : toB a ++ (⟨#[103, 111, 32]⟩ : ByteArray) ++ toB (Lib.decDigits n) ++ (⟨#[10, 115, 97, 109, 101, 10, 100, 105, 102, 102, 32]⟩ : ByteArray) ++ toB (Lib.decDigits n) ++ (⟨#[10]⟩ : ByteArray) = toB (a ++ goTail n) := by
  rw [show (⟨#[103, 111, 32]⟩ : ByteArray) = toB [103, 111, 32] from rfl, show (⟨#[10, 115, 97, 109, 101, 10, 100, 105, 102, 102, 32]⟩ : ByteArray) = toB [10, 115, 97, 109, 101, 10, 100, 105, 102, 102, 32] from rfl, show (⟨#[10]⟩ : ByteArray) = toB [10] from rfl, toB_cat, toB_cat, toB_cat, toB_cat, toB_cat]
  congr 1
  unfold goTail
  simp [goW, sameW, diffW]
theorem whole_add (a : List UInt8) (x : ByteArray) : toB a ++ x ++ (⟨#[10]⟩ : ByteArray) = toB (a ++ x.data.toList ++ [10]) ∧ Whole (a ++ x.data.toList ++ [10]) := by
  constructor
  · conv => lhs; rw [show x = toB x.data.toList from (toB_of x).symm, show (⟨#[10]⟩ : ByteArray) = toB [10] from rfl, toB_cat, toB_cat]
  · right; rw [List.getLast?_append]; rfl
set_option maxHeartbeats 2000000 in
set_option maxRecDepth 100000 in
theorem law_runGoes (l : List ByteArray) (n : Int) (vl : Value) (w : World) (hl : Rdv w Never vl l) (hn : -9223372036854775808 ≤ n ∧ n ≤ 9223372036854775807) (mx : Int) (hg : Globs w mx) (hg9 : 9 ≤ w.heap.size) (he : w.cell? ⟨1, 0, none⟩ = some errT) :
    Calls Tryz.prog 5 #[vl, .int .i64 n] w fun e w' => e = .returned (.bool true) ∧ Chg Never w w' := by
  obtain ⟨a, cap, rfl, h1, h2, h3⟩ := rdv_slice hl
  unfold maxLen at h2
  by_cases h4 : n < 0
  · have t1 : decide (n < 0) = true := decide_eq_true h4
    clear h4
    go_enter Tryz.func5, Tryz.ntmps5
    go_wp2_with fail
    go_ret
    exact ⟨rfl, Chg.refl _ _⟩
  · obtain ⟨n0, rfl⟩ : ∃ n0 : Nat, n = (n0 : Int) := ⟨n.toNat, by omega⟩
    have t1 : decide ((n0 : Int) < 0) = false := decide_eq_false h4
    by_cases h5 : 1000 < n0
    · have t2 : decide ((1000 : Int) < (n0 : Int)) = true := decide_eq_true (by omega)
      clear h4 h5
      go_enter Tryz.func5, Tryz.ntmps5
      go_wp2_with fail
      go_ret
      exact ⟨rfl, Chg.refl _ _⟩
    · have t2 : decide ((1000 : Int) < (n0 : Int)) = false := decide_eq_false (by omega)
      have hn1 : n0 ≤ 1000 := by omega
      clear h4 h5
      go_enter Tryz.func5, Tryz.ntmps5
      go_wp2_with fail
      go_loop [5, 6] (fun sv iv => ∃ (k : Nat) (acc : List UInt8), iv = .int .i64 k ∧ sv = .string (toB acc) ∧ k ≤ l.length ∧ k ≤ 20 ∧ acc.length ≤ 61 * k ∧ Whole acc) (fun _ iv => l.length - (intOf iv).toNat)
      case atStart => exact ⟨0, [], rfl, rfl, Nat.zero_le _, Nat.zero_le _, Nat.le_refl _, .inl rfl⟩
      case round =>
        obtain ⟨k, acc, rfl, rfl, hk, hk20, hacc, hwh⟩ := hrel
        have HW := Lib.hid hwh
        clear hwh
        by_cases hlt : k < l.length ∧ k < 20
        · obtain ⟨hlt, hk2⟩ := hlt
          obtain ⟨x, hx⟩ : ∃ x, l[k]? = some x := ⟨l[k], by simp [hlt]⟩
          obtain ⟨b, off, rfl, _, _, hcx, hxs⟩ := elems_str h3 hx
          have tl : decide ((k : Int) < (l.length : Int)) = true := decide_eq_true (by omega)
          have t20 : decide ((k : Int) < 20) = true := decide_eq_true (by omega)
          unfold maxLen at hxs
          clear hx h3 hl
          go_wp2_with fail
          go_loop [7] (fun jv => ∃ j : Nat, jv = .int .i64 j ∧ j ≤ x.size ∧ Hid (0 < j → x.size ≤ 60)) (fun jv => x.size - (intOf jv).toNat)
          case atStart => exact ⟨0, rfl, Nat.zero_le _, fun h => absurd h (Nat.lt_irrefl _)⟩
          case round =>
            obtain ⟨j, rfl, hj, hI⟩ := hrel
            by_cases hjl : j < x.size
            · have tj : decide ((j : Int) < (x.size : Int)) = true := decide_eq_true (by omega)
              cases hb : (((x[j]'hjl).toNat : Int) == 10) with
              | true =>
                go_wp2_with fail
                go_ret
                exact ⟨rfl, Chg.refl _ _⟩
              | false =>
                by_cases h60 : 60 < x.size
                · have t60 : decide ((60 : Int) < (x.size : Int)) = true := decide_eq_true (by omega)
                  go_wp2_with fail
                  go_ret
                  exact ⟨rfl, Chg.refl _ _⟩
                · have t60 : decide ((60 : Int) < (x.size : Int)) = false := decide_eq_false (by omega)
                  have h60 : x.size ≤ 60 := by omega
                  have s1 : IntKind.i64.wrap ((j : Int) + 1) = (j : Int) + 1 := IntWalk.i64_in _ (by omega)
                  go_wp2_with fail
                  go_round
                  case rel => exact ⟨j + 1, by go_num, by omega, fun _ => h60⟩
                  case measure => simp [intOf]; omega
            · have tj : decide ((j : Int) < (x.size : Int)) = false := decide_eq_false (by omega)
              have hx60 : x.size ≤ 60 := by
                by_cases h0 : 0 < j
                · exact hI.out h0
                · omega
              obtain ⟨hw1, hw2⟩ := whole_add acc x
              have hz : (toB acc).size = acc.length := toB_sz acc
              have hl2 : (acc ++ x.data.toList ++ [10]).length ≤ 61 * (k + 1) := by
                have := Lib.size_eq x
                simp only [List.length_append, List.length_cons, List.length_nil]; omega
              have HW1 := Lib.hid hw1
              have HW2 := Lib.hid hw2
              have q1 : (⟨#[10]⟩ : ByteArray).size = 1 := rfl
              have s1 : IntKind.i64.wrap ((k : Int) + 1) = (k : Int) + 1 := IntWalk.i64_in _ (by omega)
              have n1 : ¬ (9223372036854775807 < (toB acc).size + x.size) := by omega
              have n2 : ¬ (9223372036854775807 < (toB acc ++ x).size + (⟨#[10]⟩ : ByteArray).size) := by rw [ByteArray.size_append, q1]; omega
              clear hw1 hw2 hz
              go_wp2_with fail
              go_round
              case rel => exact ⟨k + 1, acc ++ x.data.toList ++ [10], by go_num, by rw [← HW1.out], by omega, by omega, hl2, HW2.out⟩
              case measure => simp [intOf]; omega
        · have ha : acc.length ≤ 1220 := by omega
          have HA := Lib.hid ha
          have ht := goTail_len hn1
          have HD := Lib.hid (dec_any n0 (by omega) w)
          obtain ⟨hz1, hsuf⟩ := goes_run HW.out ha hn1
          have HS := Lib.hid (goes_text acc n0)
          have hd9 : (toB (Lib.decDigits n0)).size ≤ 4 := by rw [toB_sz]; exact (digits_len n0 3 (by omega)).1
          have ha9 : (toB acc).size ≤ 1220 := by rw [toB_sz]; exact ha
          have hR := run_any (toB (acc ++ goTail n0)) (by rw [toB_sz, List.length_append]; omega) w mx hg hg9 he
          rw [toB_data] at hR
          have HR := Lib.hid hR
          have HSUF := Lib.hid hsuf
          generalize runA (acc ++ goTail n0) = R at HR HSUF hz1
          generalize toB (acc ++ goTail n0) = TX at HR HS
          generalize toB (Lib.decDigits n0) = D at HD HS hd9
          generalize toB acc = A at HS ha9 ⊢
          clear hR hsuf ha ht h3 hl
          have q1 : (⟨#[103, 111, 32]⟩ : ByteArray).size = 3 := rfl
          have q2 : (⟨#[10, 115, 97, 109, 101, 10, 100, 105, 102, 102, 32]⟩ : ByteArray).size = 11 := rfl
          have q3 : (⟨#[10]⟩ : ByteArray).size = 1 := rfl
          have n1 : ¬ (9223372036854775807 < A.size + (⟨#[103, 111, 32]⟩ : ByteArray).size) := by omega
          have n2 : ¬ (9223372036854775807 < (A ++ (⟨#[103, 111, 32]⟩ : ByteArray)).size + D.size) := by simp only [ByteArray.size_append]; omega
          have n3 : ¬ (9223372036854775807 < (A ++ (⟨#[103, 111, 32]⟩ : ByteArray) ++ D).size + (⟨#[10, 115, 97, 109, 101, 10, 100, 105, 102, 102, 32]⟩ : ByteArray).size) := by simp only [ByteArray.size_append]; omega
          have n4 : ¬ (9223372036854775807 < (A ++ (⟨#[103, 111, 32]⟩ : ByteArray) ++ D ++ (⟨#[10, 115, 97, 109, 101, 10, 100, 105, 102, 102, 32]⟩ : ByteArray)).size + D.size) := by simp only [ByteArray.size_append]; omega
          have n5 : ¬ (9223372036854775807 < (A ++ (⟨#[103, 111, 32]⟩ : ByteArray) ++ D ++ (⟨#[10, 115, 97, 109, 101, 10, 100, 105, 102, 102, 32]⟩ : ByteArray) ++ D).size + (⟨#[10]⟩ : ByteArray).size) := by simp only [ByteArray.size_append]; omega
          clear q1 q2 q3
          by_cases hlt2 : k < l.length
          · have tl : decide ((k : Int) < (l.length : Int)) = true := decide_eq_true (by omega)
            have h20 : 20 ≤ k := by omega
            have t20 : decide ((k : Int) < 20) = false := decide_eq_false (by omega)
            clear hlt
            go_wp2_with fail
            refine HD.out.mono ?_
            rintro e w1 ⟨rfl, rfl⟩
            go_wp2_with fail
            rw [HS.out]
            refine HR.out.mono ?_
            rintro e w2 ⟨rfl, hc2⟩
            go_wp2_with fail
            refine (ends_any (toB R) ⟨#[111, 107, 10, 121, 101, 115, 10, 111, 107, 10]⟩ _ hz1 (by decide)).mono ?_
            rintro e w3 ⟨rfl, rfl⟩
            rw [show List.isSuffixOf (⟨#[111, 107, 10, 121, 101, 115, 10, 111, 107, 10]⟩ : ByteArray).data.toList (toB R).data.toList = true from HSUF.out]
            go_wp2_with fail
            go_ret
            exact ⟨rfl, hc2⟩
          · have tl : decide ((k : Int) < (l.length : Int)) = false := decide_eq_false (by omega)
            clear hlt
            go_wp2_with fail
            refine HD.out.mono ?_
            rintro e w1 ⟨rfl, rfl⟩
            go_wp2_with fail
            rw [HS.out]
            refine HR.out.mono ?_
            rintro e w2 ⟨rfl, hc2⟩
            go_wp2_with fail
            refine (ends_any (toB R) ⟨#[111, 107, 10, 121, 101, 115, 10, 111, 107, 10]⟩ _ hz1 (by decide)).mono ?_
            rintro e w3 ⟨rfl, rfl⟩
            rw [show List.isSuffixOf (⟨#[111, 107, 10, 121, 101, 115, 10, 111, 107, 10]⟩ : ByteArray).data.toList (toB R).data.toList = true from HSUF.out]
            go_wp2_with fail
            go_ret
            exact ⟨rfl, hc2⟩
end Go.Proofs.YtmjpfoeaobdaeaaGreatDoor
