/-
  PARTS: THE WALK of the document's PatchText (handstitchref2).; THE WALK of the document's Number (handstitchref2).; THE WALK of the document's Line: diff.; THE SHAPE OF A CHANGE AS THE DOCUMENT ASKS FOR IT, in plain Lean.
-/
import Derived.Test.YtmjpfoeaobdaeaaGreatDoorRa20
import Derived.Test.YtmjpfoeaobdaeaaGreatDoorRa14
import Derived.Test.YtmjpfoeaobdaeaaGreatDoorRa11
import Derived.Test.YtmjpfoeaobdaeaaGreatDoorRa13
import Derived.Test.YtmjpfoeaobdaeaaGreatDoorRa2
import Derived.Test.YtmjpfoeaobdaeaaGreatDoorRa16
import Derived.Deep.RegionHeld3
set_option linter.unusedVariables false
set_option linter.unusedSimpArgs false
namespace Go.Proofs.YtmjpfoeaobdaeaaGreatDoor
open Go.RowKit

set_option maxHeartbeats 2000000 in
set_option maxRecDepth 100000 in
theorem refPatchText_any (p : List Change) (v : Value) (w : World) (h : Rdv w Never v p) (hz : (patchFault p).2 = 0) :
    Calls Tryz.prog 33 #[v] w fun e w' => e = .returned (.string (toB (textG p))) ∧ Chg Never w w' := by
  obtain ⟨p16, pall⟩ := patch_each hz
  have hTL := (changes_ok p pall).2
  have HALL := Lib.hid pall
  obtain ⟨a, cap, rfl, h1, h2, h3⟩ := rdv_slice h
  unfold maxLen at h2
  clear hz pall h
  go_enter Tryz.func33, Tryz.ntmps33
  go_wp2_with fail
  go_loopw [3, 4] (fun sv i wr => ∃ (k : Nat) (acc : ByteArray), k ≤ p.length ∧ i = .int .i64 k ∧ sv = .string acc ∧ acc.size ≤ 181440 ∧ Hid (acc = toB (textG (p.take k))) ∧ Chg Never w wr) (fun _ i _ => p.length - (intOf i).toNat)
  case atStart => exact ⟨0, _, Nat.zero_le _, rfl, rfl, Nat.zero_le _, rfl, Chg.refl _ _⟩
  case round =>
    obtain ⟨k, acc, hk, rfl, rfl, hzA, hJ, hc⟩ := hrel
    rename World => wr
    by_cases hlt : k < p.length
    · obtain ⟨x, hx⟩ : ∃ x, p[k]? = some x := ⟨p[k], by simp [hlt]⟩
      obtain ⟨b', off, mv, rfl, -, -, c0, c1, c2, hxp, hmv⟩ := elems_change h3 hx
      have c0 := hc.cellNever c0
      have c1 := hc.cellNever c1
      have c2 := hc.cellNever c2
      have hmr := hmv.never hc
      obtain ⟨ma, mc, rfl, -, -, -⟩ := rdv_slice hmv
      obtain ⟨x1, x2, x3⟩ := change_ok (HALL.out x (List.mem_of_getElem? hx))
      obtain ⟨xl, -⟩ := path_fine x2
      have X3 := Lib.hid x3
      have HT := Lib.hid (textG_take hx)
      have hTk := @textG_mono p k
      have hTk1 := @textG_mono p (k + 1)
      have hUl : (textU x.hunks).length ≤ (textG (p.take (k + 1))).length := by rw [HT.out]; simp only [List.length_append]; omega
      have hpz : x.path.size ≤ 20 := by rw [Lib.size_eq]; exact xl
      have n1 : ¬ (9223372036854775807 < 2 + x.path.size) := by omega
      clear hx h3 hmv x2 x3 xl
      rcases x1 with x1 | x1 | x1
      · have q2 : (x.what == 2) = false := by rw [x1]; rfl
        have q3 : (x.what == 3) = false := by rw [x1]; rfl
        have XW := Lib.hid x1
        have HS : Hid ((⟨#[45, 45, 45, 32]⟩ : ByteArray) ++ ((⟨#[97, 47]⟩ : ByteArray) ++ x.path) ++ ⟨#[10, 43, 43, 43, 32]⟩ ++ ((⟨#[98, 47]⟩ : ByteArray) ++ x.path) ++ ⟨#[10]⟩ = toB (mmL ++ fromL x.what x.path.data.toList ++ [10] ++ (ppL ++ toL x.what x.path.data.toList ++ [10]))) := gp_str _ _ _ _ (by (rw [XW.out]; exact gp_pre 97 47 x.path)) (by (rw [XW.out]; exact gp_pre 98 47 x.path))
        have hFz : ((⟨#[97, 47]⟩ : ByteArray) ++ x.path : ByteArray).size ≤ 22 := by (rw [ByteArray.size_append]; show 2 + x.path.size ≤ 22; omega)
        have hTz : ((⟨#[98, 47]⟩ : ByteArray) ++ x.path : ByteArray).size ≤ 22 := by (rw [ByteArray.size_append]; show 2 + x.path.size ≤ 22; omega)
        have HF : Hid (acc ++ ⟨#[45, 45, 45, 32]⟩ ++ ((⟨#[97, 47]⟩ : ByteArray) ++ x.path) ++ ⟨#[10, 43, 43, 43, 32]⟩ ++ ((⟨#[98, 47]⟩ : ByteArray) ++ x.path) ++ ⟨#[10]⟩ ++ toB (textU x.hunks) = toB (textG (p.take (k + 1)))) := by
          rw [Hid, HT.out, toB_append, toB_append, ← hJ.out, ← HS.out]
          simp only [ByteArray.append_assoc]
        have hUz : (toB (textU x.hunks)).size ≤ 200000 := by rw [toB_size']; omega
        clear x1
        go_wp2_with fail
        refine (refHunksText_any x.hunks _ _ hmr X3.out).mono ?_
        rintro e w5 ⟨rfl, hc5⟩
        clear c0 c1 c2
        go_wp2_with fail
        go_roundw
        case rel => exact ⟨k + 1, _, by omega, by go_num, rfl, by rw [HF.out, toB_size']; omega, HF.out, hc.trans hc5⟩
        case measure => simp [intOf]; omega
      · have q2 : (x.what == 2) = true := by rw [x1]; rfl
        have q3 : (x.what == 3) = false := by rw [x1]; rfl
        have XW := Lib.hid x1
        have HS : Hid ((⟨#[45, 45, 45, 32]⟩ : ByteArray) ++ ((⟨#[47, 100, 101, 118, 47, 110, 117, 108, 108]⟩ : ByteArray)) ++ ⟨#[10, 43, 43, 43, 32]⟩ ++ ((⟨#[98, 47]⟩ : ByteArray) ++ x.path) ++ ⟨#[10]⟩ = toB (mmL ++ fromL x.what x.path.data.toList ++ [10] ++ (ppL ++ toL x.what x.path.data.toList ++ [10]))) := gp_str _ _ _ _ (by (rw [XW.out]; rfl)) (by (rw [XW.out]; exact gp_pre 98 47 x.path))
        have hFz : ((⟨#[47, 100, 101, 118, 47, 110, 117, 108, 108]⟩ : ByteArray) : ByteArray).size ≤ 22 := by decide
        have hTz : ((⟨#[98, 47]⟩ : ByteArray) ++ x.path : ByteArray).size ≤ 22 := by (rw [ByteArray.size_append]; show 2 + x.path.size ≤ 22; omega)
        have HF : Hid (acc ++ ⟨#[45, 45, 45, 32]⟩ ++ ((⟨#[47, 100, 101, 118, 47, 110, 117, 108, 108]⟩ : ByteArray)) ++ ⟨#[10, 43, 43, 43, 32]⟩ ++ ((⟨#[98, 47]⟩ : ByteArray) ++ x.path) ++ ⟨#[10]⟩ ++ toB (textU x.hunks) = toB (textG (p.take (k + 1)))) := by
          rw [Hid, HT.out, toB_append, toB_append, ← hJ.out, ← HS.out]
          simp only [ByteArray.append_assoc]
        have hUz : (toB (textU x.hunks)).size ≤ 200000 := by rw [toB_size']; omega
        clear x1
        go_wp2_with fail
        refine (refHunksText_any x.hunks _ _ hmr X3.out).mono ?_
        rintro e w5 ⟨rfl, hc5⟩
        clear c0 c1 c2
        go_wp2_with fail
        go_roundw
        case rel => exact ⟨k + 1, _, by omega, by go_num, rfl, by rw [HF.out, toB_size']; omega, HF.out, hc.trans hc5⟩
        case measure => simp [intOf]; omega
      · have q2 : (x.what == 2) = false := by rw [x1]; rfl
        have q3 : (x.what == 3) = true := by rw [x1]; rfl
        have XW := Lib.hid x1
        have HS : Hid ((⟨#[45, 45, 45, 32]⟩ : ByteArray) ++ ((⟨#[97, 47]⟩ : ByteArray) ++ x.path) ++ ⟨#[10, 43, 43, 43, 32]⟩ ++ ((⟨#[47, 100, 101, 118, 47, 110, 117, 108, 108]⟩ : ByteArray)) ++ ⟨#[10]⟩ = toB (mmL ++ fromL x.what x.path.data.toList ++ [10] ++ (ppL ++ toL x.what x.path.data.toList ++ [10]))) := gp_str _ _ _ _ (by (rw [XW.out]; exact gp_pre 97 47 x.path)) (by (rw [XW.out]; rfl))
        have hFz : ((⟨#[97, 47]⟩ : ByteArray) ++ x.path : ByteArray).size ≤ 22 := by (rw [ByteArray.size_append]; show 2 + x.path.size ≤ 22; omega)
        have hTz : ((⟨#[47, 100, 101, 118, 47, 110, 117, 108, 108]⟩ : ByteArray) : ByteArray).size ≤ 22 := by decide
        have HF : Hid (acc ++ ⟨#[45, 45, 45, 32]⟩ ++ ((⟨#[97, 47]⟩ : ByteArray) ++ x.path) ++ ⟨#[10, 43, 43, 43, 32]⟩ ++ ((⟨#[47, 100, 101, 118, 47, 110, 117, 108, 108]⟩ : ByteArray)) ++ ⟨#[10]⟩ ++ toB (textU x.hunks) = toB (textG (p.take (k + 1)))) := by
          rw [Hid, HT.out, toB_append, toB_append, ← hJ.out, ← HS.out]
          simp only [ByteArray.append_assoc]
        have hUz : (toB (textU x.hunks)).size ≤ 200000 := by rw [toB_size']; omega
        clear x1
        go_wp2_with fail
        refine (refHunksText_any x.hunks _ _ hmr X3.out).mono ?_
        rintro e w5 ⟨rfl, hc5⟩
        clear c0 c1 c2
        go_wp2_with fail
        go_roundw
        case rel => exact ⟨k + 1, _, by omega, by go_num, rfl, by rw [HF.out, toB_size']; omega, HF.out, hc.trans hc5⟩
        case measure => simp [intOf]; omega
    · rw [List.take_of_length_le (by omega)] at hJ
      go_wp2_with fail
      go_ret
      exact ⟨by rw [← hJ.out]; rfl, hc⟩
end Go.Proofs.YtmjpfoeaobdaeaaGreatDoor
namespace Go.Proofs.YtmjpfoeaobdaeaaGreatDoor
open Go.RowKit

def numV : Option Nat → Int
  | none => -1
  | some n => n
theorem byte_of {s : ByteArray} {k : Nat} (h : k < s.size) : s.data.toList[k]? = some (s[k]'h) := by rw [Array.getElem?_toList, Array.getElem?_eq_getElem h]; rfl
theorem df_bad {q : Nat} {c : UInt8} {r : List UInt8} (h : c.toNat < 48 ∨ 57 < c.toNat) : Lib.decFrom q (c :: r) = none := by
  rw [Lib.decFrom]
  have : Lib.digitVal c = none := by unfold Lib.digitVal; rw [if_neg (by omega)]
  rw [this]
theorem df_ok {q : Nat} {c : UInt8} {r : List UInt8} (h1 : 48 ≤ c.toNat) (h2 : c.toNat ≤ 57) : Lib.decFrom q (c :: r) = Lib.decFrom (q * 10 + (c.toNat - 48)) r := by
  rw [Lib.decFrom]
  have : Lib.digitVal c = some (c.toNat - 48) := by unfold Lib.digitVal; rw [if_pos ⟨h1, h2⟩]
  rw [this]
set_option maxHeartbeats 1000000 in
set_option maxRecDepth 100000 in
theorem refNumber_any (s : ByteArray) (k : Nat) (hk : k ≤ 9) (hs : s.size ≤ 1000000000) (w : World) :
    Calls Tryz.prog 31 #[.string s, .int .i64 k] w fun e w' => e = .returned (.int .i64 (numV (numM k s.data.toList))) ∧ w = w' := by
  have hsz := Lib.size_eq s
  by_cases h1 : s.size < 1
  · have t1 : decide ((s.size : Int) < 1) = true := decide_eq_true (by omega)
    have p1 : s.data.toList.length < 1 := by omega
    have HP := Lib.hid p1
    clear hsz p1
    go_enter Tryz.func31, Tryz.ntmps31
    have HR : Hid (numM k s.data.toList = none) := by rw [Hid, num_ref]; exact if_pos (.inl HP.out)
    go_wp2_with fail
    go_ret
    exact ⟨by rw [HR.out]; rfl, rfl⟩
  · have t1 : decide ((s.size : Int) < 1) = false := decide_eq_false (by omega)
    by_cases h2 : k < s.size
    · have t2 : decide ((k : Int) < (s.size : Int)) = true := decide_eq_true (by omega)
      have p1 : k < s.data.toList.length := by omega
      have HP := Lib.hid p1
      clear hsz p1
      go_enter Tryz.func31, Tryz.ntmps31
      have HR : Hid (numM k s.data.toList = none) := by rw [Hid, num_ref]; exact if_pos (.inr (.inl HP.out))
      go_wp2_with fail
      go_ret
      exact ⟨by rw [HR.out]; rfl, rfl⟩
    · have t2 : decide ((k : Int) < (s.size : Int)) = false := decide_eq_false (by omega)
      have h0 : 0 < s.size := by omega
      have hh : s.data.toList.head? = some (s[0]'h0) := by rw [List.head?_eq_getElem?, byte_of h0]
      by_cases h3 : 1 < s.size
      · have t3 : decide ((1 : Int) < (s.size : Int)) = true := decide_eq_true (by omega)
        by_cases h4 : s[0]'h0 = 48
        · have t4 : (((s[0]'h0).toNat : Int) == 48) = true := by rw [h4]; rfl
          have p1 : 1 < s.data.toList.length ∧ s.data.toList.head? = some 48 := ⟨by omega, by rw [hh, h4]⟩
          have HP := Lib.hid p1
          clear hsz p1 hh h4
          go_enter Tryz.func31, Tryz.ntmps31
          have HR : Hid (numM k s.data.toList = none) := by rw [Hid, num_ref]; exact if_pos (.inr (.inr HP.out))
          go_wp2_with fail
          go_ret
          exact ⟨by rw [HR.out]; rfl, rfl⟩
        · have t4 : (((s[0]'h0).toNat : Int) == 48) = false := by
            simp only [beq_eq_false_iff_ne, ne_eq]
            intro e
            exact h4 (UInt8.toNat_inj.1 (by have : (48 : UInt8).toNat = 48 := rfl; omega))
          have HN : Hid (Lib.decFrom 0 (s.data.toList.drop 0) = numM k s.data.toList) := by
            rw [Hid, List.drop_zero, num_ref, if_neg]
            rintro (q | q | q)
            · omega
            · omega
            · rw [hh] at q
              exact h4 (by have := q.2; injection this)
          clear hsz hh h4
          go_enter Tryz.func31, Tryz.ntmps31
          go_wp2_with fail
          go_loop [5, 6] (fun nv iv => ∃ (j q : Nat), iv = .int .i64 j ∧ nv = .int .i64 q ∧ j ≤ s.size ∧ q + 1 ≤ 10 ^ j ∧ Hid (Lib.decFrom q (s.data.toList.drop j) = numM k s.data.toList)) (fun _ iv => s.size - (intOf iv).toNat)
          case atStart => exact ⟨0, 0, rfl, rfl, Nat.zero_le _, Nat.le_refl _, HN⟩
          case round =>
            obtain ⟨j, q, rfl, rfl, hj, hq, hI⟩ := hrel
            have hq9 : (10 : Nat) ^ j ≤ 10 ^ 9 := Nat.pow_le_pow_right (by decide) (by omega)
            have hq9 : q < 1000000000 := by omega
            by_cases hlt : j < s.size
            · have hd : s.data.toList.drop j = (s[j]'hlt) :: s.data.toList.drop (j + 1) := by
                obtain ⟨hk2, he⟩ := List.getElem?_eq_some_iff.1 (byte_of hlt)
                rw [List.drop_eq_getElem_cons hk2, he]
              have hc1 := (s[j]'hlt).toNat_lt
              have hD : Hid (Lib.decFrom q ((s[j]'hlt) :: s.data.toList.drop (j + 1)) = numM k s.data.toList) := by rw [Hid, ← hd]; exact hI
              clear hd hI
              by_cases g1 : (s[j]'hlt).toNat < 48
              · have HR : Hid (numM k s.data.toList = none) := by rw [Hid, ← hD.out, df_bad (.inl g1)]
                have b1 : decide (((s[j]'hlt).toNat : Int) < 48) = true := decide_eq_true (by omega)
                clear hD
                go_wp2_with fail
                go_ret
                exact ⟨by rw [HR.out]; rfl, rfl⟩
              · have b1 : decide (((s[j]'hlt).toNat : Int) < 48) = false := decide_eq_false (by omega)
                by_cases g2 : 57 < (s[j]'hlt).toNat
                · have HR : Hid (numM k s.data.toList = none) := by rw [Hid, ← hD.out, df_bad (.inr g2)]
                  have b2 : decide ((57 : Int) < ((s[j]'hlt).toNat : Int)) = true := decide_eq_true (by omega)
                  clear hD
                  go_wp2_with fail
                  go_ret
                  exact ⟨by rw [HR.out]; rfl, rfl⟩
                · have b2 : decide ((57 : Int) < ((s[j]'hlt).toNat : Int)) = false := decide_eq_false (by omega)
                  have HS : Hid (Lib.decFrom (q * 10 + ((s[j]'hlt).toNat - 48)) (s.data.toList.drop (j + 1)) = numM k s.data.toList) := by rw [Hid, ← df_ok (by omega) (by omega)]; exact hD
                  have hp : (10 : Nat) ^ (j + 1) = 10 ^ j * 10 := Nat.pow_succ ..
                  have hq2 : q * 10 + ((s[j]'hlt).toNat - 48) + 1 ≤ 10 ^ (j + 1) := by omega
                  clear hp hD
                  have s1 : IntKind.i64.wrap ((q : Int) * 10) = (q : Int) * 10 := IntWalk.i64_in _ (by omega)
                  have s2 : IntKind.i64.wrap ((q : Int) * 10 + ((s[j]'hlt).toNat : Int)) = (q : Int) * 10 + ((s[j]'hlt).toNat : Int) := IntWalk.i64_in _ (by omega)
                  have s3 : IntKind.i64.wrap ((q : Int) * 10 + ((s[j]'hlt).toNat : Int) - 48) = (q : Int) * 10 + ((s[j]'hlt).toNat : Int) - 48 := IntWalk.i64_in _ (by omega)
                  go_wp2_with fail
                  go_round
                  case rel => exact ⟨j + 1, q * 10 + ((s[j]'hlt).toNat - 48), by go_num, by congr 1; omega, by omega, hq2, HS⟩
                  case measure => simp [intOf]; omega
            · have HR : Hid (numM k s.data.toList = some q) := by
                rw [Hid, ← hI.out, List.drop_of_length_le (by rw [← Lib.size_eq]; omega)]; rfl
              clear hI
              go_wp2_with fail
              go_ret
              exact ⟨by rw [HR.out]; rfl, rfl⟩
      · have t3 : decide ((1 : Int) < (s.size : Int)) = false := decide_eq_false (by omega)
        have HN : Hid (Lib.decFrom 0 (s.data.toList.drop 0) = numM k s.data.toList) := by
          rw [Hid, List.drop_zero, num_ref, if_neg]
          rintro (q | q | q) <;> omega
        clear hsz hh
        go_enter Tryz.func31, Tryz.ntmps31
        go_wp2_with fail
        go_loop [5, 6] (fun nv iv => ∃ (j q : Nat), iv = .int .i64 j ∧ nv = .int .i64 q ∧ j ≤ s.size ∧ q + 1 ≤ 10 ^ j ∧ Hid (Lib.decFrom q (s.data.toList.drop j) = numM k s.data.toList)) (fun _ iv => s.size - (intOf iv).toNat)
        case atStart => exact ⟨0, 0, rfl, rfl, Nat.zero_le _, Nat.le_refl _, HN⟩
        case round =>
          obtain ⟨j, q, rfl, rfl, hj, hq, hI⟩ := hrel
          have hq9 : (10 : Nat) ^ j ≤ 10 ^ 9 := Nat.pow_le_pow_right (by decide) (by omega)
          have hq9 : q < 1000000000 := by omega
          by_cases hlt : j < s.size
          · have hd : s.data.toList.drop j = (s[j]'hlt) :: s.data.toList.drop (j + 1) := by
              obtain ⟨hk2, he⟩ := List.getElem?_eq_some_iff.1 (byte_of hlt)
              rw [List.drop_eq_getElem_cons hk2, he]
            have hc1 := (s[j]'hlt).toNat_lt
            have hD : Hid (Lib.decFrom q ((s[j]'hlt) :: s.data.toList.drop (j + 1)) = numM k s.data.toList) := by rw [Hid, ← hd]; exact hI
            clear hd hI
            by_cases g1 : (s[j]'hlt).toNat < 48
            · have HR : Hid (numM k s.data.toList = none) := by rw [Hid, ← hD.out, df_bad (.inl g1)]
              have b1 : decide (((s[j]'hlt).toNat : Int) < 48) = true := decide_eq_true (by omega)
              clear hD
              go_wp2_with fail
              go_ret
              exact ⟨by rw [HR.out]; rfl, rfl⟩
            · have b1 : decide (((s[j]'hlt).toNat : Int) < 48) = false := decide_eq_false (by omega)
              by_cases g2 : 57 < (s[j]'hlt).toNat
              · have HR : Hid (numM k s.data.toList = none) := by rw [Hid, ← hD.out, df_bad (.inr g2)]
                have b2 : decide ((57 : Int) < ((s[j]'hlt).toNat : Int)) = true := decide_eq_true (by omega)
                clear hD
                go_wp2_with fail
                go_ret
                exact ⟨by rw [HR.out]; rfl, rfl⟩
              · have b2 : decide ((57 : Int) < ((s[j]'hlt).toNat : Int)) = false := decide_eq_false (by omega)
                have HS : Hid (Lib.decFrom (q * 10 + ((s[j]'hlt).toNat - 48)) (s.data.toList.drop (j + 1)) = numM k s.data.toList) := by rw [Hid, ← df_ok (by omega) (by omega)]; exact hD
                have hp : (10 : Nat) ^ (j + 1) = 10 ^ j * 10 := Nat.pow_succ ..
                have hq2 : q * 10 + ((s[j]'hlt).toNat - 48) + 1 ≤ 10 ^ (j + 1) := by omega
                clear hp hD
                have s1 : IntKind.i64.wrap ((q : Int) * 10) = (q : Int) * 10 := IntWalk.i64_in _ (by omega)
                have s2 : IntKind.i64.wrap ((q : Int) * 10 + ((s[j]'hlt).toNat : Int)) = (q : Int) * 10 + ((s[j]'hlt).toNat : Int) := IntWalk.i64_in _ (by omega)
                have s3 : IntKind.i64.wrap ((q : Int) * 10 + ((s[j]'hlt).toNat : Int) - 48) = (q : Int) * 10 + ((s[j]'hlt).toNat : Int) - 48 := IntWalk.i64_in _ (by omega)
                go_wp2_with fail
                go_round
                case rel => exact ⟨j + 1, q * 10 + ((s[j]'hlt).toNat - 48), by go_num, by congr 1; omega, by omega, hq2, HS⟩
                case measure => simp [intOf]; omega
          · have HR : Hid (numM k s.data.toList = some q) := by
              rw [Hid, ← hI.out, List.drop_of_length_le (by rw [← Lib.size_eq]; omega)]; rfl
            clear hI
            go_wp2_with fail
            go_ret
            exact ⟨by rw [HR.out]; rfl, rfl⟩
end Go.Proofs.YtmjpfoeaobdaeaaGreatDoor
namespace Go.Proofs.YtmjpfoeaobdaeaaGreatDoor
open Go.RowKit

def diffZ (m : Ses) (p : List UInt8) : List UInt8 := match numM 4 p with | some n => diffS m n | none => badL
theorem diffZ_none {m : Ses} {p : List UInt8} (h : numM 4 p = none) : diffZ m p = badL := by unfold diffZ; rw [h]
theorem diffZ_far {m : Ses} {p : List UInt8} {n : Nat} (h : numM 4 p = some n) (hn : 1000 < n) : diffZ m p = toldS [] 1 := by
  unfold diffZ; rw [h]
  show diffS m n = _
  unfold diffS; rw [if_neg (by omega)]
theorem diffZ_ok {m : Ses} {p : List UInt8} {n : Nat} (h : numM 4 p = some n) (hn : n ≤ 1000) : diffZ m p = blankL (textG (diffL n m.old m.new)) ++ okL := by
  unfold diffZ; rw [h]
  exact if_pos hn
def blankR (l : List (List UInt8)) : List UInt8 := (l.map fun x => 32 :: (x ++ [10])).flatten
theorem blankR_step {l : List (List UInt8)} {i : Nat} {x : List UInt8} (h : l[i]? = some x) : blankR (l.take (i + 1)) = blankR (l.take i) ++ (32 :: (x ++ [10])) := by
  unfold blankR
  rw [List.take_add_one, h]
  simp
theorem blankR_len (l : List (List UInt8)) (k : Nat) : (blankR (l.take k)).length ≤ (blankR l).length := by
  unfold blankR
  conv => rhs; rw [← List.take_append_drop k l, List.map_append, List.flatten_append, List.length_append]
  exact Nat.le_add_right _ _
theorem blankR_part {l : List (List UInt8)} {i : Nat} {x : List UInt8} (h : l[i]? = some x) : (blankR (l.take i)).length + x.length + 2 ≤ (blankR l).length := by
  have := blankR_len l (i + 1)
  rw [blankR_step h, List.length_append, List.length_cons, List.length_append] at this
  simp at this
  omega
theorem blank_text (a x : List UInt8) : toB a ++ (⟨#[32]⟩ : ByteArray) ++ toB x ++ (⟨#[10]⟩ : ByteArray) = toB (a ++ (32 :: (x ++ [10]))) := by
  rw [show (⟨#[32]⟩ : ByteArray) = toB [32] from rfl, show (⟨#[10]⟩ : ByteArray) = toB [10] from rfl, toB_cat, toB_cat, toB_cat]
  congr 1
  simp
set_option maxHeartbeats 4000000 in
set_option maxRecDepth 100000 in
theorem doc_diff (b : Nat) (m : Ses) (s p : List UInt8) (w : World) (hd : DocAt w b m) (hok : SesOk m) (hs : s.length ≤ 100000) (hW : parts 32 s = [diffW, p]) :
    Calls Tryz.prog 15 #[.pointer (some ⟨b, 0, none⟩), .string (toB s)] w (DocPost b (m, diffZ m p) w) := by
  have hpl : p.length ≤ s.length := by
    have hj := join_words 32 s
    rw [hW] at hj
    rw [← hj]
    simp only [joinW, List.length_append, List.length_cons]
    omega
  have hns := hd.nostr
  obtain ⟨vo, vn, hb, ho, hn⟩ := hd
  obtain ⟨oa, oc, rfl, _, _, _⟩ := rdv_slice ho
  obtain ⟨na, nc, rfl, _, _, _⟩ := rdv_slice hn
  have HW := Lib.hid hW
  have t1 : ((toB diffW).toList == [100, 114, 111, 112]) = false := by rw [wtest]; decide
  have t2 : ((toB diffW).toList == [100, 105, 102, 102]) = true := by rw [wtest]; decide
  have t3 : ((toB diffW).toList == [102, 97, 114]) = false := by rw [wtest]; decide
  have t4 : ((toB diffW).toList == [103, 111]) = false := by rw [wtest]; decide
  have s1 : ((toB s).toList == [98, 97, 99, 107]) = false := wfalse (parts_ne1 HW.out (by decide))
  have s2 : ((toB s).toList == [115, 97, 109, 101]) = false := wfalse (parts_ne1 HW.out (by decide))
  clear hW
  go_enter Tryz.func15, Tryz.ntmps15
  go_wp2_with fail
  refine (words_any (toB s) w (by rw [toB_sz]; omega)).mono ?_
  rintro e w1 ⟨ws, rfl, hc1, hws⟩
  rw [toB_data, HW.out] at hws
  have hb1 := hb.keep hc1 (fun x => x)
  have ho1 := ho.never hc1
  have hn1 := hn.never hc1
  obtain ⟨c0, c1⟩ := hb1.cell
  clear hb ho hn
  obtain ⟨wa, wc, rfl, _, wz2, wz3⟩ := rdv_slice hws
  obtain ⟨wb, woff, rfl, _, _, k0, _⟩ := elems_str wz3 (i := 0) rfl
  obtain ⟨wb', woff', hwe, _, _, k1, hps⟩ := elems_str wz3 (i := 1) rfl
  injection hwe with hwe
  injection hwe with hwe1 hwe2 _
  subst hwe1 hwe2
  clear wz3 hws
  simp only [List.map_cons, List.map_nil, List.length_cons, List.length_nil, Nat.add_zero, Nat.zero_add, Nat.reduceAdd] at k0 k1 ⊢
  generalize toB diffW = X at k0 t1 t2 t3 t4
  have hNum := refNumber_any (toB p) 4 (by decide) (by rw [toB_sz]; omega) w1
  rw [toB_data] at hNum
  have HNUM := Lib.hid hNum
  clear hNum
  have hdd : DocAt w1 b m := ⟨_, _, hb1, ho1, hn1⟩
  go_wp2_with fail
  refine HNUM.out.mono ?_
  rintro e w2 ⟨rfl, rfl⟩
  clear HNUM
  cases hN : numM 4 p with
  | none =>
    have HR := Lib.hid (diffZ_none (m := m) hN)
    rw [show numV none = -1 from rfl]
    clear hN
    go_wp2_with fail
    go_ret
    exact ⟨never_b hc1, hdd, by rw [HR.out]; rfl⟩
  | some n =>
    rw [show numV (some n) = (n : Int) from rfl]
    have h4 := numM4_lt hN
    by_cases hn1000 : 1000 < n
    · have HR := Lib.hid (diffZ_far (m := m) hN hn1000)
      have t5 : decide ((n : Int) < 0) = false := decide_eq_false (by omega)
      have t6 : decide ((1000 : Int) < (n : Int)) = true := decide_eq_true (by omega)
      clear hN hn1000
      go_wp2_with fail
      refine (reftold_any [] (by simp) 1 _).mono ?_
      rintro e w4 ⟨rfl, rfl⟩
      go_wp2_with fail
      go_ret
      exact ⟨never_b hc1, hdd, by rw [HR.out]; rfl⟩
    · have HR := Lib.hid (diffZ_ok (m := m) hN (by omega))
      have t5 : decide ((n : Int) < 0) = false := decide_eq_false (by omega)
      have t6 : decide ((1000 : Int) < (n : Int)) = false := decide_eq_false (by omega)
      have hle := diff_text_len hok (n := n) (by omega)
      have hbl := blank_len (textG (diffL n m.old m.new))
      have HPF : Hid ((patchFault (diffL n m.old m.new)).2 = 0) := by rw [Hid, patch_ok (diff_leads hok.1 hok.2 (n := (n : Int)) (by omega) (by omega)).1]
      have HBL : Hid (blankL (textG (diffL n m.old m.new)) = blankR (parts 10 (textG (diffL n m.old m.new))).dropLast) := rfl
      clear hN
      have hod := ho1.never ((Chg.refl Never w1).drew)
      have hnd := hn1.never ((Chg.refl Never w1).drew)
      have HDD := Lib.hid (diff_same (n : Int) hok.1.2.2 hok.2.2.2)
      have hfo := tree_iff.1 hok.1
      have hfn := tree_iff.1 hok.2
      go_wp2_with fail
      refine wp_region_held_drew (S := fun w' => Chg Never w1 w' ∧ w'.cell? ⟨b, 0, none⟩ = some (.slice oa m.old.length oc) ∧ w'.cell? ⟨b, 1, none⟩ = some (.slice na m.new.length nc)) (by kernel_rfl) ⟨(Chg.refl Never w1).drew, c0, c1⟩ (fun hH => ?_)
      refine' tk 0 ?_
      refine' tk 1 ?_
      refine' tk 2 ?_
      refine' tk 3 ?_
      refine' tk 4 ?_
      refine' tk 5 ?_
      refine' tk 6 ?_
      refine' tk 7 ?_
      refine' tk 8 ?_
      refine wpAnyH_ready (rs := [9]) (by kernel_rfl) (by simp) ?_
      refine AllReadyH.cons rfl (fun K hK => ?_) AllReadyH.nil
      go_simp
      (go_at_call 25; refine (refDiff_any m.old m.new (n : Int) _ _ _ hod hnd hfo hfn (by omega) (by omega)).mono ?_; rintro e w2 ⟨r2, rfl, hc2, hr2⟩; have hw2 := ((Chg.refl Never w1).drew).trans hc2; have hS2 : Chg Never w1 w2 ∧ w2.cell? ⟨b, 0, none⟩ = some (.slice oa m.old.length oc) ∧ w2.cell? ⟨b, 1, none⟩ = some (.slice na m.new.length nc) := ⟨hw2, hw2.cellNever c0, hw2.cellNever c1⟩; rw [HDD.out] at hr2; obtain ⟨ra, rc, rfl, _, _, _⟩ := rdv_slice hr2; clear hH hc2)
      try go_wp2_with fail
      refine hK.out _ _ ?_ (fun hH => ?_)
      · assumption
      clear hK K
      try simp only [Act.put, List.setIfInBounds_toArray, List.set_cons_zero, List.set_cons_succ]
      refine' tk 10 ?_
      refine wpAnyH_done (by kernel_rfl) ?_ _
      have hd2 := hdd.never hw2
      have hw := hc1.trans hw2
      have hb2 := hb1.keep hw2 (fun x => x)
      have ho2 := ho1.never hw2
      have hn2 := hn1.never hw2
      obtain ⟨d0, d1⟩ := hb2.cell
      have k0 := hw2.cellNever k0
      clear hS2 hod hnd hb1 ho1 hn1 c0 c1 hw2 HDD k1
      generalize diffL (n : Int) m.old m.new = D at hr2 HPF HR HBL hle hbl ⊢
      have hPT := refPatchText_any D _ w2 hr2 HPF.out
      have HPT := Lib.hid hPT
      clear hPT hr2 HPF
      rw [show blankL (textG D) = blankR (parts 10 (textG D)).dropLast from HBL.out] at hbl
      go_wp2_with fail
      refine HPT.out.mono ?_
      rintro e w3 ⟨rfl, hc3⟩
      have hPa := refParts_any (toB (textG D)) w3 (by rw [toB_sz]; omega)
      rw [toB_data] at hPa
      have HPA := Lib.hid hPa
      have hpn := List.length_pos_iff.2 (parts_ne 10 (textG D))
      generalize textG D = T at HPA HR HBL hle hbl hpn
      clear hPa HPT
      go_wp2_with fail
      refine HPA.out.mono ?_
      rintro e w4 ⟨r4, rfl, hc4, hr4⟩
      have hd4 := (hd2.never hc3).never hc4
      have hw4 := (hw.trans hc3).trans hc4
      have hr4 := hr4.sub (O' := Never) (fun _ _ h => h.elim)
      clear HPA hc3 hc4 hb2 ho2 hn2 d0 d1 k0 hd2 hw
      obtain ⟨qa, qc, rfl, q1, q2, q3⟩ := rdv_slice hr4
      have HLEN : Hid (((parts 10 T).map toB).length = (parts 10 T).length) := by unfold Hid; simp
      rw [HLEN.out] at q1 ⊢
      generalize hPP : parts 10 T = L at q1 q3 HBL hpn HLEN hbl ⊢
      unfold maxLen at q2
      clear hPP hr4
      go_wp2_with fail
      go_loop [21, 23] (fun sv iv => ∃ k : Nat, iv = .int .i64 k ∧ k < L.length ∧ sv = .string (toB (blankR (L.dropLast.take k)))) (fun _ iv => L.length - (intOf iv).toNat)
      case atStart => exact ⟨0, rfl, hpn, rfl⟩
      case round =>
        obtain ⟨k, rfl, hk, rfl⟩ := hrel
        have s1 : IntKind.i64.wrap ((L.length : Int) - 1) = (L.length : Int) - 1 := IntWalk.i64_in _ (by omega)
        by_cases hlt : k + 1 < L.length
        · obtain ⟨x, hx⟩ : ∃ x, L[k]? = some x := ⟨L[k], by simp [hk]⟩
          have hxd : L.dropLast[k]? = some x := by rw [List.getElem?_dropLast, if_pos (by omega)]; exact hx
          have hxm : (L.map toB)[k]? = some (toB x) := by rw [List.getElem?_map, hx]; rfl
          obtain ⟨xb, xo, rfl, _, _, hcx, hxs⟩ := elems_str q3 hxm
          have hpt := blankR_part hxd
          have HST := Lib.hid (blankR_step hxd)
          have HTX := Lib.hid (blank_text (blankR (L.dropLast.take k)) x)
          have s2 : IntKind.i64.wrap ((k : Int) + 1) = (k : Int) + 1 := IntWalk.i64_in _ (by omega)
          have z1 : (toB (blankR (L.dropLast.take k))).size = (blankR (L.dropLast.take k)).length := toB_sz _
          have z2 : (toB x).size = x.length := toB_sz _
          have tk : decide ((k : Int) < (L.length : Int) - 1) = true := decide_eq_true (by omega)
          have e1 : (⟨#[32]⟩ : ByteArray).size = 1 := rfl
          have e2 : (⟨#[10]⟩ : ByteArray).size = 1 := rfl
          generalize toB (blankR (L.dropLast.take k)) = A at z1 HTX ⊢
          generalize hxx : toB x = Xx at z2 HTX hcx hxm
          have n1 : ¬ (9223372036854775807 < A.size + (⟨#[32]⟩ : ByteArray).size) := by omega
          have n2 : ¬ (9223372036854775807 < (A ++ (⟨#[32]⟩ : ByteArray)).size + Xx.size) := by simp only [ByteArray.size_append]; omega
          have n3 : ¬ (9223372036854775807 < (A ++ (⟨#[32]⟩ : ByteArray) ++ Xx).size + (⟨#[10]⟩ : ByteArray).size) := by simp only [ByteArray.size_append]; omega
          clear hx hxd hxm hpt z1 z2 e1 e2 hxx q3
          go_wp2_with fail
          go_round
          case rel => exact ⟨k + 1, by go_num, hlt, by rw [HST.out, ← HTX.out]⟩
          case measure => simp [intOf]; omega
        · have tk : decide ((k : Int) < (L.length : Int) - 1) = false := decide_eq_false (by omega)
          have HE : Hid (blankR (L.dropLast.take k) = blankR L.dropLast) := by rw [Hid, List.take_of_length_le (by rw [List.length_dropLast]; omega)]
          have HT2 : Hid (toB (blankR L.dropLast) ++ (⟨#[111, 107, 10]⟩ : ByteArray) = toB (blankR L.dropLast ++ okL)) := by rw [Hid, show (⟨#[111, 107, 10]⟩ : ByteArray) = toB okL from rfl, toB_cat]
          have z1 : (toB (blankR L.dropLast)).size = (blankR L.dropLast).length := toB_sz _
          have e1 : (⟨#[111, 107, 10]⟩ : ByteArray).size = 3 := rfl
          rw [HE.out]
          generalize toB (blankR L.dropLast) = A at z1 HT2 ⊢
          have n1 : ¬ (9223372036854775807 < A.size + (⟨#[111, 107, 10]⟩ : ByteArray).size) := by omega
          clear z1 e1
          go_wp2_with fail
          go_ret
          exact ⟨never_b hw4, hd4, by rw [HR.out, HBL.out, ← HT2.out]; rfl⟩
end Go.Proofs.YtmjpfoeaobdaeaaGreatDoor
namespace Go.Proofs.YtmjpfoeaobdaeaaGreatDoor

theorem allSign_those (l : List Mark) (s : Int) : allSign l s = decide ((those l s).length = 0) := by
  unfold allSign those
  rw [List.length_map]
  induction l with
  | nil => rfl
  | cons m r ih =>
    rw [List.all_cons, ih, List.filter_cons]
    by_cases h : m.sign = s
    · simp [h]
    · simp [h]
theorem shape_edit0 {c : Change} (h : c.what = 1) (g : c.hunks = []) : shapeB c = false := by
  unfold shapeB; rw [if_neg (by rw [h]; decide), if_neg (by rw [h]; decide), g]; rfl
theorem shape_edit {c : Change} (h : c.what = 1) (g : c.hunks ≠ []) : shapeB c = true := by
  unfold shapeB
  rw [if_neg (by rw [h]; decide), if_neg (by rw [h]; decide)]
  cases hh : c.hunks with
  | nil => exact absurd hh g
  | cons x r => rfl
theorem shape_of {c : Change} (h : c.what = 2 ∨ c.what = 3) : shapeB c = wholeB c.hunks (if c.what = 2 then 43 else 45) := by
  unfold shapeB
  by_cases e : c.what = 2
  · rw [if_pos e, if_pos e]
  · rw [if_neg e, if_neg e, if_pos (h.resolve_left e)]
theorem shape_many {c : Change} (h : c.what = 2 ∨ c.what = 3) (g : 2 ≤ c.hunks.length) : shapeB c = false := by rw [shape_of h, wholeB_many g]
theorem shape_none {c : Change} (h : c.what = 2 ∨ c.what = 3) (g : c.hunks = []) : shapeB c = true := by rw [shape_of h, g]; rfl
theorem shape_one {c : Change} {x : Hunk} (h : c.what = 2 ∨ c.what = 3) (g : c.hunks = [x]) (f : (hunksFault c.hunks).2 = 0) : shapeB c = (decide (x.old = 0) && decide ((those x.marks (if c.what = 2 then 43 else 45)).length = 0)) := by
  rw [shape_of h, g, wholeB_one, allSign_those]
  have e : x.new = x.old := by
    rw [g] at f
    have := ((hunksFault_zero f).2).1
    have := (oneFault_zero this).2.2.2.2.2.2.2
    omega
  by_cases o : x.old = 0
  · rw [decide_eq_true o, decide_eq_true (by omega)]; rfl
  · rw [decide_eq_false o]; rfl
theorem pg_bad {t : List Change} {k : Nat} {f : Change} {prev : Option ByteArray} (hd : t.drop k = f :: t.drop (k + 1)) (h1 : changeFault f = 0 ∨ changeFault f = 2) (h2 : shapeB f = false ∨ prev.any (fun p => leqB f.path p) = true) (hs : shapeB f = false → changeFault f = 2) : patchGo k prev (t.drop k) = (k, 2) := by
  rw [hd, patchGo]
  by_cases e : changeFault f ≠ 0
  · rw [if_pos e, h1.resolve_left e]
  · rw [if_neg e]
    rcases h2 with h2 | h2
    · exact absurd (by rw [hs h2]; decide) e
    · rw [if_pos h2]
end Go.Proofs.YtmjpfoeaobdaeaaGreatDoor
