/-
  PARTS: THE WALK of the document's PatchText (handstitchref2).; THE WALK of the document's Find (light: no function of layers 1 to 9).; THE WALK of the document's Number (handstitchref2).; THE WALK of the document's spanOf (handstitchref2).; THE WALKS of the document's Starts, Ends (light: no function of layers 1 to 9).; THE WALK of the document's headOf (handstitchref2).; HUNKS READ AS THE DOCUMENT READS THEM, in plain Lean: what holds at each line.; A CHANGE's HUNKS READ LINE BY LINE, in plain Lean: what holds at each line.; A TEXT OF HUNKS READ LINE BY LINE, in plain Lean: what holds at each line, what the program answers.; A SLICE OF A SLICE, as a run, at whatever element type (light: no function walked).; THE WALK of unified.Parse.; MORE ON SLICES THAT append HAS BUILT.; THE WALKS of patch.all and of the document's whole.
-/
import Derived.Test.YtmojaahkcpgfkaaGreatDoorPackGu5
import Derived.Test.YtmojaahkcpgfkaaGreatDoorPackGu8
import Derived.Test.YtmojaahkcpgfkaaGreatDoorPackGu7
import Derived.Test.YtmojaahkcpgfkaaGreatDoorPackGu2
import Derived.Test.YtmojaahkcpgfkaaGreatDoorPackGu3
import Derived.Test.YtmojaahkcpgfkaaGreatDoorPackGu4
import Derived.WalkSpells
import Derived.Test.YtmojaahkcpgfkaaGreatDoorPackGu6
namespace Go.Proofs.YtmojaahkcpgfkaaGreatDoor
open Go.RowKit

set_option maxHeartbeats 2000000 in
set_option maxRecDepth 100000 in
theorem refPatchText_any (p : List Change) (v : Value) (w : World) (h : Rdv w Never v p) (hz : (patchFault p).2 = 0) :
    Calls Tryz.prog 15 #[v] w fun e w' => e = .returned (.string (toB (textG p))) ∧ Chg Never w w' := by
  obtain ⟨p16, pall⟩ := patch_each hz
  have hTL := (changes_ok p pall).2
  have HALL := Lib.hid pall
  obtain ⟨a, cap, rfl, h1, h2, h3⟩ := rdv_slice h
  unfold maxLen at h2
  clear hz pall h
  go_enter Tryz.func15, Tryz.ntmps15
  go_wp2_with fail
  go_loopw [3, 4] (fun sv i wr => ∃ (k : Nat) (acc : ByteArray), k ≤ p.length ∧ i = .int .i64 k ∧ sv = .string acc ∧ acc.size ≤ 181440 ∧ Hid (acc = toB (textG (p.take k))) ∧ Chg Never w wr) (fun _ i _ => p.length - (intOf i).toNat)
  case atStart => exact ⟨0, _, Nat.zero_le _, rfl, rfl, Nat.zero_le _, rfl, Chg.refl _ _⟩
  case round =>
    obtain ⟨k, acc, hk, rfl, rfl, hzA, hJ, hc⟩ := hrel
    rename World => wr
    by_cases hlt : k < p.length
    · obtain ⟨x, hx⟩ : ∃ x, p[k]? = some x := ⟨p[k], by simp [hlt]⟩
      obtain ⟨b', off, mv, rfl, -, -, c0, c1, c2, hxp, hmv⟩ := elems_change h3 hx
      have c0 := hc.cellNever c0
      have c1 := hc.cellNever c1
      have c2 := hc.cellNever c2
      have hmr := hmv.never hc
      obtain ⟨ma, mc, rfl, -, -, -⟩ := rdv_slice hmv
      obtain ⟨x1, x2, x3⟩ := change_ok (HALL.out x (List.mem_of_getElem? hx))
      obtain ⟨xl, -⟩ := path_fine x2
      have X3 := Lib.hid x3
      have HT := Lib.hid (textG_take hx)
      have hTk := @textG_mono p k
      have hTk1 := @textG_mono p (k + 1)
      have hUl : (textU x.hunks).length ≤ (textG (p.take (k + 1))).length := by rw [HT.out]; simp only [List.length_append]; omega
      have hpz : x.path.size ≤ 20 := by rw [Lib.size_eq]; exact xl
      have n1 : ¬ (9223372036854775807 < 2 + x.path.size) := by omega
      clear hx h3 hmv x2 x3 xl
      rcases x1 with x1 | x1 | x1
      · have q2 : (x.what == 2) = false := by rw [x1]; rfl
        have q3 : (x.what == 3) = false := by rw [x1]; rfl
        have XW := Lib.hid x1
        have HS : Hid ((⟨#[45, 45, 45, 32]⟩ : ByteArray) ++ ((⟨#[97, 47]⟩ : ByteArray) ++ x.path) ++ ⟨#[10, 43, 43, 43, 32]⟩ ++ ((⟨#[98, 47]⟩ : ByteArray) ++ x.path) ++ ⟨#[10]⟩ = toB (mmL ++ fromL x.what x.path.data.toList ++ [10] ++ (ppL ++ toL x.what x.path.data.toList ++ [10]))) := gp_str _ _ _ _ (by (rw [XW.out]; exact gp_pre 97 47 x.path)) (by (rw [XW.out]; exact gp_pre 98 47 x.path))
        have hFz : ((⟨#[97, 47]⟩ : ByteArray) ++ x.path : ByteArray).size ≤ 22 := by (rw [ByteArray.size_append]; show 2 + x.path.size ≤ 22; omega)
        have hTz : ((⟨#[98, 47]⟩ : ByteArray) ++ x.path : ByteArray).size ≤ 22 := by (rw [ByteArray.size_append]; show 2 + x.path.size ≤ 22; omega)
        have HF : Hid (acc ++ ⟨#[45, 45, 45, 32]⟩ ++ ((⟨#[97, 47]⟩ : ByteArray) ++ x.path) ++ ⟨#[10, 43, 43, 43, 32]⟩ ++ ((⟨#[98, 47]⟩ : ByteArray) ++ x.path) ++ ⟨#[10]⟩ ++ toB (textU x.hunks) = toB (textG (p.take (k + 1)))) := by
          rw [Hid, HT.out, toB_append, toB_append, ← hJ.out, ← HS.out]
          simp only [ByteArray.append_assoc]
        have hUz : (toB (textU x.hunks)).size ≤ 200000 := by rw [toB_size']; omega
        clear x1
        go_wp2_with fail
        refine (refHunksText_any x.hunks _ _ hmr X3.out).mono ?_
        rintro e w5 ⟨rfl, hc5⟩
        clear c0 c1 c2
        go_wp2_with fail
        go_roundw
        case rel => exact ⟨k + 1, _, by omega, by go_num, rfl, by rw [HF.out, toB_size']; omega, HF.out, hc.trans hc5⟩
        case measure => simp [intOf]; omega
      · have q2 : (x.what == 2) = true := by rw [x1]; rfl
        have q3 : (x.what == 3) = false := by rw [x1]; rfl
        have XW := Lib.hid x1
        have HS : Hid ((⟨#[45, 45, 45, 32]⟩ : ByteArray) ++ ((⟨#[47, 100, 101, 118, 47, 110, 117, 108, 108]⟩ : ByteArray)) ++ ⟨#[10, 43, 43, 43, 32]⟩ ++ ((⟨#[98, 47]⟩ : ByteArray) ++ x.path) ++ ⟨#[10]⟩ = toB (mmL ++ fromL x.what x.path.data.toList ++ [10] ++ (ppL ++ toL x.what x.path.data.toList ++ [10]))) := gp_str _ _ _ _ (by (rw [XW.out]; rfl)) (by (rw [XW.out]; exact gp_pre 98 47 x.path))
        have hFz : ((⟨#[47, 100, 101, 118, 47, 110, 117, 108, 108]⟩ : ByteArray) : ByteArray).size ≤ 22 := by decide
        have hTz : ((⟨#[98, 47]⟩ : ByteArray) ++ x.path : ByteArray).size ≤ 22 := by (rw [ByteArray.size_append]; show 2 + x.path.size ≤ 22; omega)
        have HF : Hid (acc ++ ⟨#[45, 45, 45, 32]⟩ ++ ((⟨#[47, 100, 101, 118, 47, 110, 117, 108, 108]⟩ : ByteArray)) ++ ⟨#[10, 43, 43, 43, 32]⟩ ++ ((⟨#[98, 47]⟩ : ByteArray) ++ x.path) ++ ⟨#[10]⟩ ++ toB (textU x.hunks) = toB (textG (p.take (k + 1)))) := by
          rw [Hid, HT.out, toB_append, toB_append, ← hJ.out, ← HS.out]
          simp only [ByteArray.append_assoc]
        have hUz : (toB (textU x.hunks)).size ≤ 200000 := by rw [toB_size']; omega
        clear x1
        go_wp2_with fail
        refine (refHunksText_any x.hunks _ _ hmr X3.out).mono ?_
        rintro e w5 ⟨rfl, hc5⟩
        clear c0 c1 c2
        go_wp2_with fail
        go_roundw
        case rel => exact ⟨k + 1, _, by omega, by go_num, rfl, by rw [HF.out, toB_size']; omega, HF.out, hc.trans hc5⟩
        case measure => simp [intOf]; omega
      · have q2 : (x.what == 2) = false := by rw [x1]; rfl
        have q3 : (x.what == 3) = true := by rw [x1]; rfl
        have XW := Lib.hid x1
        have HS : Hid ((⟨#[45, 45, 45, 32]⟩ : ByteArray) ++ ((⟨#[97, 47]⟩ : ByteArray) ++ x.path) ++ ⟨#[10, 43, 43, 43, 32]⟩ ++ ((⟨#[47, 100, 101, 118, 47, 110, 117, 108, 108]⟩ : ByteArray)) ++ ⟨#[10]⟩ = toB (mmL ++ fromL x.what x.path.data.toList ++ [10] ++ (ppL ++ toL x.what x.path.data.toList ++ [10]))) := gp_str _ _ _ _ (by (rw [XW.out]; exact gp_pre 97 47 x.path)) (by (rw [XW.out]; rfl))
        have hFz : ((⟨#[97, 47]⟩ : ByteArray) ++ x.path : ByteArray).size ≤ 22 := by (rw [ByteArray.size_append]; show 2 + x.path.size ≤ 22; omega)
        have hTz : ((⟨#[47, 100, 101, 118, 47, 110, 117, 108, 108]⟩ : ByteArray) : ByteArray).size ≤ 22 := by decide
        have HF : Hid (acc ++ ⟨#[45, 45, 45, 32]⟩ ++ ((⟨#[97, 47]⟩ : ByteArray) ++ x.path) ++ ⟨#[10, 43, 43, 43, 32]⟩ ++ ((⟨#[47, 100, 101, 118, 47, 110, 117, 108, 108]⟩ : ByteArray)) ++ ⟨#[10]⟩ ++ toB (textU x.hunks) = toB (textG (p.take (k + 1)))) := by
          rw [Hid, HT.out, toB_append, toB_append, ← hJ.out, ← HS.out]
          simp only [ByteArray.append_assoc]
        have hUz : (toB (textU x.hunks)).size ≤ 200000 := by rw [toB_size']; omega
        clear x1
        go_wp2_with fail
        refine (refHunksText_any x.hunks _ _ hmr X3.out).mono ?_
        rintro e w5 ⟨rfl, hc5⟩
        clear c0 c1 c2
        go_wp2_with fail
        go_roundw
        case rel => exact ⟨k + 1, _, by omega, by go_num, rfl, by rw [HF.out, toB_size']; omega, HF.out, hc.trans hc5⟩
        case measure => simp [intOf]; omega
    · rw [List.take_of_length_le (by omega)] at hJ
      go_wp2_with fail
      go_ret
      exact ⟨by rw [← hJ.out]; rfl, hc⟩
end Go.Proofs.YtmojaahkcpgfkaaGreatDoor
namespace Go.Proofs.YtmojaahkcpgfkaaGreatDoor
open Go.RowKit

theorem occ_extract (s t : ByteArray) (k : Nat) : ((s.extract k (k + t.size)).toList == t.toList) = Lib.occAt s.data.toList t.data.toList k := by
  rw [Lib.toList_data, Lib.toList_data, Lib.extract_data, Nat.add_sub_cancel_left, Lib.size_eq]
  unfold Lib.occAt
  rw [Bool.eq_iff_iff, beq_iff_eq, List.isPrefixOf_iff_prefix]
  constructor
  · intro e
    refine ⟨(s.data.toList.drop k).drop t.data.toList.length, ?_⟩
    conv => lhs; lhs; rw [← e]
    exact List.take_append_drop _ _
  · rintro ⟨u, e⟩
    rw [← e, List.take_left]
theorem occ_beyond {s t : List UInt8} {j : Nat} (h : s.length < j + t.length) : j ≤ s.length → Lib.occAt s t j = false := fun _ => by
  unfold Lib.occAt
  rw [Bool.eq_false_iff, ne_eq, List.isPrefixOf_iff_prefix]
  intro e
  have := e.length_le
  rw [List.length_drop] at this
  omega

set_option maxHeartbeats 1000000 in
set_option maxRecDepth 100000 in
theorem find_any (s t : ByteArray) (w : World) (hs : s.size ≤ 1000000000) (ht : t.size ≤ 1000000000) (ht0 : 0 < t.size) :
    Calls Tryz.prog 68 #[.string s, .string t] w fun e w' => e = .returned (.int .i64 (Lib.index s.data.toList t.data.toList)) ∧ w' = w := by
  go_enter Tryz.func68, Tryz.ntmps68
  go_wp2_with fail
  go_loop [5] (fun i => ∃ k : Nat, k ≤ s.size + 1 ∧ i = .int .i64 k ∧ Hid (∀ j, j < k → Lib.occAt s.data.toList t.data.toList j = false)) (fun i => s.size + 1 - (intOf i).toNat)
  case atStart => exact ⟨0, by omega, rfl, fun j hj => absurd hj (Nat.not_lt_zero j)⟩
  case round =>
    obtain ⟨k, hk, rfl, hno⟩ := hrel
    by_cases hlt : k + t.size ≤ s.size
    · have hb := occ_extract s t k
      cases ho : Lib.occAt s.data.toList t.data.toList k with
      | true =>
        have HF : Hid (Lib.index s.data.toList t.data.toList = k) := Lib.index_first (by rw [← Lib.size_eq]; omega) ho hno.out
        rw [ho] at hb
        clear ho hno
        go_wp2_with fail
        go_ret
        exact ⟨by rw [HF.out]; rfl, rfl⟩
      | false =>
        have hno2 : Hid (∀ j, j < k + 1 → Lib.occAt s.data.toList t.data.toList j = false) := fun j hj => by
          by_cases e : j = k
          · subst e; exact ho
          · exact hno.out j (by omega)
        rw [ho] at hb
        clear ho hno
        go_wp2_with fail
        go_round
        case rel => exact ⟨k + 1, by omega, by go_num, hno2⟩
        case measure => simp [intOf]; omega
    · have HF : Hid (Lib.index s.data.toList t.data.toList = -1) := Lib.index_none fun j hj => by
        by_cases e : j < k
        · exact hno.out j e
        · exact occ_beyond (by rw [← Lib.size_eq, ← Lib.size_eq]; omega) hj
      clear hno
      go_wp2_with fail
      go_ret
      exact ⟨by rw [HF.out]; rfl, rfl⟩
theorem find_one (s : ByteArray) (c : UInt8) (w : World) (hs : s.size ≤ 1000000000) :
    Calls Tryz.prog 68 #[.string s, .string ⟨#[c]⟩] w fun e w' => e = .returned (.int .i64 (Lib.indexByte s.data.toList c)) ∧ w' = w := by
  rw [← Lib.index_one]
  exact find_any s ⟨#[c]⟩ w hs (by show 1 ≤ _; omega) (by show 0 < 1; omega)
end Go.Proofs.YtmojaahkcpgfkaaGreatDoor
namespace Go.Proofs.YtmojaahkcpgfkaaGreatDoor
open Go.RowKit

def numV : Option Nat → Int
  | none => -1
  | some n => n
theorem byte_of {s : ByteArray} {k : Nat} (h : k < s.size) : s.data.toList[k]? = some (s[k]'h) := by rw [Array.getElem?_toList, Array.getElem?_eq_getElem h]; rfl
theorem df_bad {q : Nat} {c : UInt8} {r : List UInt8} (h : c.toNat < 48 ∨ 57 < c.toNat) : Lib.decFrom q (c :: r) = none := by
  rw [Lib.decFrom]
  have : Lib.digitVal c = none := by unfold Lib.digitVal; rw [if_neg (by omega)]
  rw [this]
theorem df_ok {q : Nat} {c : UInt8} {r : List UInt8} (h1 : 48 ≤ c.toNat) (h2 : c.toNat ≤ 57) : Lib.decFrom q (c :: r) = Lib.decFrom (q * 10 + (c.toNat - 48)) r := by
  rw [Lib.decFrom]
  have : Lib.digitVal c = some (c.toNat - 48) := by unfold Lib.digitVal; rw [if_pos ⟨h1, h2⟩]
  rw [this]
set_option maxHeartbeats 1000000 in
set_option maxRecDepth 100000 in
theorem refNumber_any (s : ByteArray) (k : Nat) (hk : k ≤ 9) (hs : s.size ≤ 1000000000) (w : World) :
    Calls Tryz.prog 88 #[.string s, .int .i64 k] w fun e w' => e = .returned (.int .i64 (numV (numM k s.data.toList))) ∧ w = w' := by
  have hsz := Lib.size_eq s
  by_cases h1 : s.size < 1
  · have t1 : decide ((s.size : Int) < 1) = true := decide_eq_true (by omega)
    have p1 : s.data.toList.length < 1 := by omega
    have HP := Lib.hid p1
    clear hsz p1
    go_enter Tryz.func88, Tryz.ntmps88
    have HR : Hid (numM k s.data.toList = none) := by rw [Hid, num_ref]; exact if_pos (.inl HP.out)
    go_wp2_with fail
    go_ret
    exact ⟨by rw [HR.out]; rfl, rfl⟩
  · have t1 : decide ((s.size : Int) < 1) = false := decide_eq_false (by omega)
    by_cases h2 : k < s.size
    · have t2 : decide ((k : Int) < (s.size : Int)) = true := decide_eq_true (by omega)
      have p1 : k < s.data.toList.length := by omega
      have HP := Lib.hid p1
      clear hsz p1
      go_enter Tryz.func88, Tryz.ntmps88
      have HR : Hid (numM k s.data.toList = none) := by rw [Hid, num_ref]; exact if_pos (.inr (.inl HP.out))
      go_wp2_with fail
      go_ret
      exact ⟨by rw [HR.out]; rfl, rfl⟩
    · have t2 : decide ((k : Int) < (s.size : Int)) = false := decide_eq_false (by omega)
      have h0 : 0 < s.size := by omega
      have hh : s.data.toList.head? = some (s[0]'h0) := by rw [List.head?_eq_getElem?, byte_of h0]
      by_cases h3 : 1 < s.size
      · have t3 : decide ((1 : Int) < (s.size : Int)) = true := decide_eq_true (by omega)
        by_cases h4 : s[0]'h0 = 48
        · have t4 : (((s[0]'h0).toNat : Int) == 48) = true := by rw [h4]; rfl
          have p1 : 1 < s.data.toList.length ∧ s.data.toList.head? = some 48 := ⟨by omega, by rw [hh, h4]⟩
          have HP := Lib.hid p1
          clear hsz p1 hh h4
          go_enter Tryz.func88, Tryz.ntmps88
          have HR : Hid (numM k s.data.toList = none) := by rw [Hid, num_ref]; exact if_pos (.inr (.inr HP.out))
          go_wp2_with fail
          go_ret
          exact ⟨by rw [HR.out]; rfl, rfl⟩
        · have t4 : (((s[0]'h0).toNat : Int) == 48) = false := by
            simp only [beq_eq_false_iff_ne, ne_eq]
            intro e
            exact h4 (UInt8.toNat_inj.1 (by have : (48 : UInt8).toNat = 48 := rfl; omega))
          have HN : Hid (Lib.decFrom 0 (s.data.toList.drop 0) = numM k s.data.toList) := by
            rw [Hid, List.drop_zero, num_ref, if_neg]
            rintro (q | q | q)
            · omega
            · omega
            · rw [hh] at q
              exact h4 (by have := q.2; injection this)
          clear hsz hh h4
          go_enter Tryz.func88, Tryz.ntmps88
          go_wp2_with fail
          go_loop [5, 6] (fun nv iv => ∃ (j q : Nat), iv = .int .i64 j ∧ nv = .int .i64 q ∧ j ≤ s.size ∧ q + 1 ≤ 10 ^ j ∧ Hid (Lib.decFrom q (s.data.toList.drop j) = numM k s.data.toList)) (fun _ iv => s.size - (intOf iv).toNat)
          case atStart => exact ⟨0, 0, rfl, rfl, Nat.zero_le _, Nat.le_refl _, HN⟩
          case round =>
            obtain ⟨j, q, rfl, rfl, hj, hq, hI⟩ := hrel
            have hq9 : (10 : Nat) ^ j ≤ 10 ^ 9 := Nat.pow_le_pow_right (by decide) (by omega)
            have hq9 : q < 1000000000 := by omega
            by_cases hlt : j < s.size
            · have hd : s.data.toList.drop j = (s[j]'hlt) :: s.data.toList.drop (j + 1) := by
                obtain ⟨hk2, he⟩ := List.getElem?_eq_some_iff.1 (byte_of hlt)
                rw [List.drop_eq_getElem_cons hk2, he]
              have hc1 := (s[j]'hlt).toNat_lt
              have hD : Hid (Lib.decFrom q ((s[j]'hlt) :: s.data.toList.drop (j + 1)) = numM k s.data.toList) := by rw [Hid, ← hd]; exact hI
              clear hd hI
              by_cases g1 : (s[j]'hlt).toNat < 48
              · have HR : Hid (numM k s.data.toList = none) := by rw [Hid, ← hD.out, df_bad (.inl g1)]
                have b1 : decide (((s[j]'hlt).toNat : Int) < 48) = true := decide_eq_true (by omega)
                clear hD
                go_wp2_with fail
                go_ret
                exact ⟨by rw [HR.out]; rfl, rfl⟩
              · have b1 : decide (((s[j]'hlt).toNat : Int) < 48) = false := decide_eq_false (by omega)
                by_cases g2 : 57 < (s[j]'hlt).toNat
                · have HR : Hid (numM k s.data.toList = none) := by rw [Hid, ← hD.out, df_bad (.inr g2)]
                  have b2 : decide ((57 : Int) < ((s[j]'hlt).toNat : Int)) = true := decide_eq_true (by omega)
                  clear hD
                  go_wp2_with fail
                  go_ret
                  exact ⟨by rw [HR.out]; rfl, rfl⟩
                · have b2 : decide ((57 : Int) < ((s[j]'hlt).toNat : Int)) = false := decide_eq_false (by omega)
                  have HS : Hid (Lib.decFrom (q * 10 + ((s[j]'hlt).toNat - 48)) (s.data.toList.drop (j + 1)) = numM k s.data.toList) := by rw [Hid, ← df_ok (by omega) (by omega)]; exact hD
                  have hp : (10 : Nat) ^ (j + 1) = 10 ^ j * 10 := Nat.pow_succ ..
                  have hq2 : q * 10 + ((s[j]'hlt).toNat - 48) + 1 ≤ 10 ^ (j + 1) := by omega
                  clear hp hD
                  have s1 : IntKind.i64.wrap ((q : Int) * 10) = (q : Int) * 10 := IntWalk.i64_in _ (by omega)
                  have s2 : IntKind.i64.wrap ((q : Int) * 10 + ((s[j]'hlt).toNat : Int)) = (q : Int) * 10 + ((s[j]'hlt).toNat : Int) := IntWalk.i64_in _ (by omega)
                  have s3 : IntKind.i64.wrap ((q : Int) * 10 + ((s[j]'hlt).toNat : Int) - 48) = (q : Int) * 10 + ((s[j]'hlt).toNat : Int) - 48 := IntWalk.i64_in _ (by omega)
                  go_wp2_with fail
                  go_round
                  case rel => exact ⟨j + 1, q * 10 + ((s[j]'hlt).toNat - 48), by go_num, by congr 1; omega, by omega, hq2, HS⟩
                  case measure => simp [intOf]; omega
            · have HR : Hid (numM k s.data.toList = some q) := by
                rw [Hid, ← hI.out, List.drop_of_length_le (by rw [← Lib.size_eq]; omega)]; rfl
              clear hI
              go_wp2_with fail
              go_ret
              exact ⟨by rw [HR.out]; rfl, rfl⟩
      · have t3 : decide ((1 : Int) < (s.size : Int)) = false := decide_eq_false (by omega)
        have HN : Hid (Lib.decFrom 0 (s.data.toList.drop 0) = numM k s.data.toList) := by
          rw [Hid, List.drop_zero, num_ref, if_neg]
          rintro (q | q | q) <;> omega
        clear hsz hh
        go_enter Tryz.func88, Tryz.ntmps88
        go_wp2_with fail
        go_loop [5, 6] (fun nv iv => ∃ (j q : Nat), iv = .int .i64 j ∧ nv = .int .i64 q ∧ j ≤ s.size ∧ q + 1 ≤ 10 ^ j ∧ Hid (Lib.decFrom q (s.data.toList.drop j) = numM k s.data.toList)) (fun _ iv => s.size - (intOf iv).toNat)
        case atStart => exact ⟨0, 0, rfl, rfl, Nat.zero_le _, Nat.le_refl _, HN⟩
        case round =>
          obtain ⟨j, q, rfl, rfl, hj, hq, hI⟩ := hrel
          have hq9 : (10 : Nat) ^ j ≤ 10 ^ 9 := Nat.pow_le_pow_right (by decide) (by omega)
          have hq9 : q < 1000000000 := by omega
          by_cases hlt : j < s.size
          · have hd : s.data.toList.drop j = (s[j]'hlt) :: s.data.toList.drop (j + 1) := by
              obtain ⟨hk2, he⟩ := List.getElem?_eq_some_iff.1 (byte_of hlt)
              rw [List.drop_eq_getElem_cons hk2, he]
            have hc1 := (s[j]'hlt).toNat_lt
            have hD : Hid (Lib.decFrom q ((s[j]'hlt) :: s.data.toList.drop (j + 1)) = numM k s.data.toList) := by rw [Hid, ← hd]; exact hI
            clear hd hI
            by_cases g1 : (s[j]'hlt).toNat < 48
            · have HR : Hid (numM k s.data.toList = none) := by rw [Hid, ← hD.out, df_bad (.inl g1)]
              have b1 : decide (((s[j]'hlt).toNat : Int) < 48) = true := decide_eq_true (by omega)
              clear hD
              go_wp2_with fail
              go_ret
              exact ⟨by rw [HR.out]; rfl, rfl⟩
            · have b1 : decide (((s[j]'hlt).toNat : Int) < 48) = false := decide_eq_false (by omega)
              by_cases g2 : 57 < (s[j]'hlt).toNat
              · have HR : Hid (numM k s.data.toList = none) := by rw [Hid, ← hD.out, df_bad (.inr g2)]
                have b2 : decide ((57 : Int) < ((s[j]'hlt).toNat : Int)) = true := decide_eq_true (by omega)
                clear hD
                go_wp2_with fail
                go_ret
                exact ⟨by rw [HR.out]; rfl, rfl⟩
              · have b2 : decide ((57 : Int) < ((s[j]'hlt).toNat : Int)) = false := decide_eq_false (by omega)
                have HS : Hid (Lib.decFrom (q * 10 + ((s[j]'hlt).toNat - 48)) (s.data.toList.drop (j + 1)) = numM k s.data.toList) := by rw [Hid, ← df_ok (by omega) (by omega)]; exact hD
                have hp : (10 : Nat) ^ (j + 1) = 10 ^ j * 10 := Nat.pow_succ ..
                have hq2 : q * 10 + ((s[j]'hlt).toNat - 48) + 1 ≤ 10 ^ (j + 1) := by omega
                clear hp hD
                have s1 : IntKind.i64.wrap ((q : Int) * 10) = (q : Int) * 10 := IntWalk.i64_in _ (by omega)
                have s2 : IntKind.i64.wrap ((q : Int) * 10 + ((s[j]'hlt).toNat : Int)) = (q : Int) * 10 + ((s[j]'hlt).toNat : Int) := IntWalk.i64_in _ (by omega)
                have s3 : IntKind.i64.wrap ((q : Int) * 10 + ((s[j]'hlt).toNat : Int) - 48) = (q : Int) * 10 + ((s[j]'hlt).toNat : Int) - 48 := IntWalk.i64_in _ (by omega)
                go_wp2_with fail
                go_round
                case rel => exact ⟨j + 1, q * 10 + ((s[j]'hlt).toNat - 48), by go_num, by congr 1; omega, by omega, hq2, HS⟩
                case measure => simp [intOf]; omega
          · have HR : Hid (numM k s.data.toList = some q) := by
              rw [Hid, ← hI.out, List.drop_of_length_le (by rw [← Lib.size_eq]; omega)]; rfl
            clear hI
            go_wp2_with fail
            go_ret
            exact ⟨by rw [HR.out]; rfl, rfl⟩
end Go.Proofs.YtmojaahkcpgfkaaGreatDoor
namespace Go.Proofs.YtmojaahkcpgfkaaGreatDoor
open Go.RowKit

def spanR (o : Option (Int × Nat)) : Value := match o with
  | none => .tuple #[.int .i64 0, .int .i64 0, .bool false]
  | some (a, x) => .tuple #[.int .i64 a, .int .i64 x, .bool true]
theorem numV_some {o : Option Nat} : (o = none ∧ numV o = -1) ∨ ∃ n, o = some n ∧ numV o = n := by
  cases o with
  | none => exact .inl ⟨rfl, rfl⟩
  | some n => exact .inr ⟨n, rfl, rfl⟩
set_option maxHeartbeats 1000000 in
set_option maxRecDepth 100000 in
theorem refSpanOf_any (s : ByteArray) (hs : s.size ≤ 1000000000) (w : World) :
    Calls Tryz.prog 69 #[.string s] w fun e w' => e = .returned (spanR (spanOf s.data.toList)) ∧ w = w' := by
  have hsz := Lib.size_eq s
  rcases pos_of_index (t := [44]) (s := s.data.toList) (by simp) with ⟨hc, hix⟩ | ⟨a, b, hc, hix, hab⟩
  · have HR : Hid (spanOf s.data.toList = none) := by unfold Hid spanOf; rw [hc]
    have HF := find_any s ⟨#[44]⟩ w hs (by decide) (by decide)
    rw [show (⟨#[44]⟩ : ByteArray).data.toList = [44] from rfl, hix] at HF
    have HF := Lib.hid HF
    clear hc hix hsz
    go_enter Tryz.func69, Tryz.ntmps69
    go_wp2_with fail
    refine HF.out.mono ?_
    rintro e w1 ⟨rfl, rfl⟩
    rename World => w
    go_wp2_with fail
    go_ret3
    exact ⟨by rw [HR.out]; rfl, rfl⟩
  · have hl := congrArg List.length hab
    rw [List.length_append, List.length_append, ← hsz] at hl
    simp only [List.length_cons, List.length_nil] at hl
    have HF := find_any s ⟨#[44]⟩ w hs (by decide) (by decide)
    rw [show (⟨#[44]⟩ : ByteArray).data.toList = [44] from rfl, hix] at HF
    have HF := Lib.hid HF
    have HA : (s.extract 0 a.length).data.toList = a := by
      rw [Lib.extract_data, hab, List.drop_zero, Nat.sub_zero, List.append_assoc, List.take_left]
    have HB : (s.extract (a.length + 1) s.size).data.toList = b := by
      rw [Lib.extract_data, hsz, hab, show a.length + 1 = (a ++ [44]).length by simp, List.drop_left, List.take_of_length_le (by simp; omega)]
    have N1 := refNumber_any (s.extract 0 a.length) 3 (by decide) (by rw [Lib.size_eq, HA]; omega) w
    have N2 := refNumber_any (s.extract (a.length + 1) s.size) 3 (by decide) (by rw [Lib.size_eq, HB]; omega) w
    rw [HA, numM_3] at N1
    rw [HB, numM_3] at N2
    have HSP : Hid (spanOf s.data.toList = match numOf a with
        | none => none
        | some x => match numOf b with
          | none => none
          | some y => if 0 < y then (if x = 0 then none else some ((x : Int) - 1, y)) else some ((x : Int), y)) := by unfold Hid spanOf; rw [hc]; rfl
    rw [show ((3 : Nat) : Int) = 3 from rfl] at N1 N2
    have N1 := Lib.hid N1
    have N2 := Lib.hid N2
    obtain ⟨k, hk⟩ : ∃ k, a.length = k := ⟨_, rfl⟩
    have s1 : IntKind.i64.wrap ((k : Int) + 1) = (k : Int) + 1 := IntWalk.i64_in _ (by omega)
    rw [hk] at HF N1 N2 hl
    have hl2 : k + 1 ≤ s.size := by omega
    clear hc hix hsz HA HB hab hk hl
    go_enter Tryz.func69, Tryz.ntmps69
    go_wp2_with fail
    refine HF.out.mono ?_
    rintro e w1 ⟨rfl, rfl⟩
    rename World => w
    go_wp2_with fail
    refine N1.out.mono ?_
    rintro e w1 ⟨rfl, rfl⟩
    go_wp2_with fail
    refine N2.out.mono ?_
    rintro e w1 ⟨rfl, rfl⟩
    clear N1 N2 HF s1
    cases h1 : numOf a with
    | none =>
      rw [h1] at HSP
      rw [show numV none = -1 from rfl]
      generalize numV (numOf b) = nb
      clear h1
      have HR : Hid (spanOf s.data.toList = none) := by
        rw [Hid, HSP.out]
        try (rfl)
      go_wp2_with fail
      go_ret3
      exact ⟨by rw [HR.out]; rfl, rfl⟩
    | some n1 =>
      rw [h1] at HSP
      rw [show numV (some n1) = (n1 : Int) from rfl]
      cases h2 : numOf b with
      | none =>
        rw [h2] at HSP
        rw [show numV none = -1 from rfl]
        clear h1 h2
        have HR : Hid (spanOf s.data.toList = none) := by
          rw [Hid, HSP.out]
          try (rfl)
        go_wp2_with fail
        go_ret3
        exact ⟨by rw [HR.out]; rfl, rfl⟩
      | some n2 =>
        rw [h2] at HSP
        rw [show numV (some n2) = (n2 : Int) from rfl]
        have hn1 := numOf_lt h1
        have hn2 := numOf_lt h2
        clear h1 h2
        by_cases hp : 0 < n2
        · have tp : decide ((0 : Int) < (n2 : Int)) = true := decide_eq_true (by omega)
          by_cases hz : n1 = 0
          · subst hz
            have HR : Hid (spanOf s.data.toList = none) := by
              rw [Hid, HSP.out]
              try (simp [hp])
            go_wp2_with fail
            go_ret3
            exact ⟨by rw [HR.out]; rfl, rfl⟩
          · have tz : ((n1 : Int) == 0) = false := by simp; omega
            have s2 : IntKind.i64.wrap ((n1 : Int) - 1) = (n1 : Int) - 1 := IntWalk.i64_in _ (by omega)
            have HR : Hid (spanOf s.data.toList = some ((n1 : Int) - 1, n2)) := by
              rw [Hid, HSP.out]
              simp only []; rw [if_pos hp, if_neg hz]
            go_wp2_with fail
            go_ret3
            exact ⟨by rw [HR.out]; rfl, rfl⟩
        · have tp : decide ((0 : Int) < (n2 : Int)) = false := decide_eq_false (by omega)
          have HR : Hid (spanOf s.data.toList = some ((n1 : Int), n2)) := by
            rw [Hid, HSP.out]
            simp only []; rw [if_neg hp]
          go_wp2_with fail
          go_ret3
          exact ⟨by rw [HR.out]; rfl, rfl⟩
end Go.Proofs.YtmojaahkcpgfkaaGreatDoor
namespace Go.Proofs.YtmojaahkcpgfkaaGreatDoor
open Go.RowKit

set_option maxHeartbeats 1000000 in
set_option maxRecDepth 100000 in
theorem starts_any (s p : ByteArray) (w : World) (_hs : s.size ≤ 1000000000) (_hp : p.size ≤ 1000000000) :
    Calls Tryz.prog 38 #[.string s, .string p] w fun e w' => e = .returned (.bool (p.data.toList.isPrefixOf s.data.toList)) ∧ w' = w := by
  by_cases h : p.size ≤ s.size
  · have t1 : decide ((p.size : Int) ≤ (s.size : Int)) = true := decide_eq_true (by omega)
    have hb : ((s.extract 0 p.size).toList == p.toList) = p.data.toList.isPrefixOf s.data.toList := by
      rw [Lib.toList_data, Lib.toList_data, Lib.extract_data, List.drop_zero, Nat.sub_zero, Lib.size_eq]
      rw [Bool.eq_iff_iff, beq_iff_eq, List.isPrefixOf_iff_prefix]
      constructor
      · intro e
        refine ⟨s.data.toList.drop p.data.toList.length, ?_⟩
        conv => lhs; lhs; rw [← e]
        exact List.take_append_drop _ _
      · rintro ⟨t, e⟩
        rw [← e, List.take_left]
    cases hx : p.data.toList.isPrefixOf s.data.toList with
    | true =>
      rw [hx] at hb
      go_enter Tryz.func38, Tryz.ntmps38
      go_wp2_with fail
      go_ret
      exact ⟨rfl, rfl⟩
    | false =>
      rw [hx] at hb
      go_enter Tryz.func38, Tryz.ntmps38
      go_wp2_with fail
      go_ret
      exact ⟨rfl, rfl⟩
  · have t1 : decide ((p.size : Int) ≤ (s.size : Int)) = false := decide_eq_false (by omega)
    have hx : Hid (p.data.toList.isPrefixOf s.data.toList = false) := by
      rw [Hid, Bool.eq_false_iff, ne_eq, List.isPrefixOf_iff_prefix]
      intro e
      have := e.length_le
      rw [← Lib.size_eq, ← Lib.size_eq] at this
      omega
    go_enter Tryz.func38, Tryz.ntmps38
    go_wp2_with fail
    go_ret
    exact ⟨by rw [hx.out]; rfl, rfl⟩

set_option maxHeartbeats 1000000 in
set_option maxRecDepth 100000 in
theorem ends_any (s p : ByteArray) (w : World) (hs : s.size ≤ 1000000000) (hp : p.size ≤ 1000000000) :
    Calls Tryz.prog 67 #[.string s, .string p] w fun e w' => e = .returned (.bool (p.data.toList.isSuffixOf s.data.toList)) ∧ w' = w := by
  by_cases h : p.size ≤ s.size
  · have t1 : decide ((p.size : Int) ≤ (s.size : Int)) = true := decide_eq_true (by omega)
    have hb : ((s.extract (s.size - p.size) s.size).toList == p.toList) = p.data.toList.isSuffixOf s.data.toList := by
      rw [Lib.toList_data, Lib.toList_data, Lib.extract_data, Lib.size_eq s, Lib.size_eq p]
      rw [List.take_of_length_le (by rw [List.length_drop]; omega)]
      rw [Bool.eq_iff_iff, beq_iff_eq, List.isSuffixOf_iff_suffix]
      constructor
      · intro e
        refine ⟨s.data.toList.take (s.data.toList.length - p.data.toList.length), ?_⟩
        conv => lhs; rhs; rw [← e]
        exact List.take_append_drop _ _
      · rintro ⟨t, e⟩
        rw [← e, List.length_append, Nat.add_sub_cancel, List.drop_left]
    have hsub : ((s.size : Int) - (p.size : Int)) = ((s.size - p.size : Nat) : Int) := by omega
    have HS := Lib.hid hsub
    clear hsub
    cases hx : p.data.toList.isSuffixOf s.data.toList with
    | true =>
      rw [hx] at hb
      go_enter Tryz.func67, Tryz.ntmps67
      go_wp2_with fail
      go_ret
      exact ⟨rfl, rfl⟩
    | false =>
      rw [hx] at hb
      go_enter Tryz.func67, Tryz.ntmps67
      go_wp2_with fail
      go_ret
      exact ⟨rfl, rfl⟩
  · have t1 : decide ((p.size : Int) ≤ (s.size : Int)) = false := decide_eq_false (by omega)
    have hx : Hid (p.data.toList.isSuffixOf s.data.toList = false) := by
      rw [Hid, Bool.eq_false_iff, ne_eq, List.isSuffixOf_iff_suffix]
      intro e
      have := e.length_le
      rw [← Lib.size_eq, ← Lib.size_eq] at this
      omega
    go_enter Tryz.func67, Tryz.ntmps67
    go_wp2_with fail
    go_ret
    exact ⟨by rw [hx.out]; rfl, rfl⟩
end Go.Proofs.YtmojaahkcpgfkaaGreatDoor
namespace Go.Proofs.YtmojaahkcpgfkaaGreatDoor
open Go.RowKit

def HeadSays (o : Option (Int × Nat × Int × Nat)) (a b : Int) (x y : Nat) (B : Bool) : Prop := (B = false ∧ o = none) ∨ (B = true ∧ o = some (a, x, b, y))
def headV (a b : Int) (x y : Nat) (B : Bool) : Value := .tuple #[.agg #[.int .i64 a, .int .i64 b, .slice none 0 0], .int .i64 x, .int .i64 y, .bool B]
set_option maxHeartbeats 2000000 in
set_option maxRecDepth 100000 in
theorem refHeadOf_any (s : ByteArray) (hs : s.size ≤ 1000000000) (w : World) :
    Calls Tryz.prog 47 #[.string s] w fun e w' => ∃ (a b : Int) (x y : Nat) (B : Bool), e = .returned (headV a b x y B) ∧ Chg Never w w' ∧ HeadSays (headOf s.data.toList) a b x y B := by
  have hsz := Lib.size_eq s
  have hA0 : Chg Never w (w.alloc (.cells #[.int .i64 0, .int .i64 0, .slice none 0 0] 42)) := (Chg.refl Never w).alloc _
  have hB0 := Blk3.new w 42 (.int .i64 0) (.int .i64 0) (.slice none 0 0)
  have HS1 := fun wx => Lib.hid (starts_any s (toB atAt) wx hs (by decide))
  have HS2 := fun wx => Lib.hid (ends_any s (toB endAt) wx hs (by decide))
  obtain ⟨p1, e1⟩ : ∃ p1, atAt.isPrefixOf s.data.toList = p1 := ⟨_, rfl⟩
  obtain ⟨p2, e2⟩ : ∃ p2, endAt.isSuffixOf s.data.toList = p2 := ⟨_, rfl⟩
  rw [toB_data, e1] at HS1
  rw [toB_data, e2] at HS2
  have E1 := Lib.hid e1
  have E2 := Lib.hid e2
  have HSZ := Lib.hid hsz
  clear e1 e2 hsz
  go_enter Tryz.func47, Tryz.ntmps47
  go_wp2_with fail
  obtain ⟨w0, hw0⟩ : ∃ w0, w.alloc (.cells #[.int .i64 0, .int .i64 0, .slice none 0 0] 42) = w0 := ⟨_, rfl⟩
  obtain ⟨wb, hwbe⟩ : ∃ wb, w.heap.size = wb := ⟨_, rfl⟩
  have hwb : w.heap.size ≤ wb := Nat.le_of_eq hwbe
  rw [hw0] at hA0 hB0 ⊢
  rw [hwbe] at hB0 ⊢
  clear hw0 hwbe
  refine (HS1 _).out.mono ?_
  rintro e w1 ⟨rfl, rfl⟩
  rename World => w0
  go_wp2_with fail
  refine (HS2 _).out.mono ?_
  rintro e w1 ⟨rfl, rfl⟩
  rename World => w0
  have hA := hA0
  have hB := hB0
  obtain ⟨b0, b1, b2⟩ := hB.cell
  have f0 := hB.free 0
  have f1 := hB.free 1
  have f2 := hB.free 2
  have S0 := cell_put_eq b0
  have S1 := cell_put_eq b1
  have S2 := cell_put_eq b2
  clear hA0 hB0 HS1 HS2
  cases p1 with
  | false =>
    have hr : Hid (headOf s.data.toList = none) := by
      rw [Hid, head_ref]
      exact if_neg (fun q => by rw [E1.out] at q; exact absurd q.1 (by decide))
    go_wp2_with fail
    refine bodyPost_ret (v := headV 0 0 0 0 false) (by simp [headV, results, Tryz.results47, go_sem, b0, b1, b2]) rfl ?_
    exact ⟨0, 0, 0, 0, false, rfl, hA, .inl ⟨rfl, hr.out⟩⟩
  | true =>
    cases p2 with
    | false =>
      have hr : Hid (headOf s.data.toList = none) := by
        rw [Hid, head_ref]
        exact if_neg (fun q => by rw [E2.out] at q; exact absurd q.2.1 (by decide))
      go_wp2_with fail
      refine bodyPost_ret (v := headV 0 0 0 0 false) (by simp [headV, results, Tryz.results47, go_sem, b0, b1, b2]) rfl ?_
      exact ⟨0, 0, 0, 0, false, rfl, hA, .inl ⟨rfl, hr.out⟩⟩
    | true =>
      by_cases h7 : s.size < 7
      · have t7 : decide ((s.size : Int) < 7) = true := decide_eq_true (by omega)
        have hr : Hid (headOf s.data.toList = none) := by
          rw [Hid, head_ref]
          exact if_neg (fun q => by have := q.2.2; rw [← HSZ.out] at this; omega)
        go_wp2_with fail
        refine bodyPost_ret (v := headV 0 0 0 0 false) (by simp [headV, results, Tryz.results47, go_sem, b0, b1, b2]) rfl ?_
        exact ⟨0, 0, 0, 0, false, rfl, hA, .inl ⟨rfl, hr.out⟩⟩
      · have t7 : decide ((s.size : Int) < 7) = false := decide_eq_false (by omega)
        have HD : Hid ((s.extract 4 (s.size - 3)).data.toList = (s.data.toList.drop 4).take (s.data.toList.length - 7)) := by
          rw [Hid, Lib.extract_data, ← HSZ.out, show s.size - 3 - 4 = s.size - 7 by omega]
        have HT : Hid (headOf s.data.toList = match cutSub [32, 43] (s.extract 4 (s.size - 3)).data.toList with
            | none => none
            | some (u, v) => match spanOf u with
              | none => none
              | some (a, x) => match spanOf v with
                | none => none
                | some (b, y) => some (a, x, b, y)) := by
          rw [Hid, head_ref, if_pos ⟨E1.out, E2.out, by rw [← HSZ.out]; omega⟩, HD.out]; rfl
        have hTz : (s.extract 4 (s.size - 3)).size ≤ 1000000000 := by
          rw [Lib.size_eq, HD.out, List.length_take]
          have := HSZ.out
          omega
        have s3 : IntKind.i64.wrap ((s.size : Int) - 3) = ((s.size - 3 : Nat) : Int) := by rw [show (s.size : Int) - 3 = ((s.size - 3 : Nat) : Int) by omega]; exact IntWalk.i64_in _ (by omega)
        go_wp2_with fail
        clear s3 HD E1 E2 HSZ t7 h7
        generalize s.extract 4 (s.size - 3) = T at HT hTz ⊢
        have HF := find_any T ⟨#[32, 43]⟩ w0 hTz (by decide) (by decide)
        rw [show (⟨#[32, 43]⟩ : ByteArray).data.toList = [32, 43] from rfl] at HF
        rcases pos_of_index (t := [32, 43]) (s := T.data.toList) (by simp) with ⟨hc, hix⟩ | ⟨u, v, hc, hix, huv⟩
        · rw [hix] at HF
          rw [hc] at HT
          have HT : Hid (headOf s.data.toList = none) := HT
          clear hc hix
          refine HF.mono ?_
          rintro e w1 ⟨rfl, rfl⟩
          rename World => w0
          clear HF
          go_wp2_with fail
          refine bodyPost_ret (v := headV 0 0 0 0 false) (by simp [headV, results, Tryz.results47, go_sem, b0, b1, b2]) rfl ?_
          exact ⟨0, 0, 0, 0, false, rfl, hA, .inl ⟨rfl, HT.out⟩⟩
        · rw [hix] at HF
          rw [hc] at HT
          simp only at HT
          have hl := congrArg List.length huv
          rw [List.length_append, List.length_append, ← Lib.size_eq] at hl
          simp only [List.length_cons, List.length_nil] at hl
          have HX : (T.extract 0 u.length).data.toList = u := by
            rw [Lib.extract_data, huv, List.drop_zero, Nat.sub_zero, List.append_assoc, List.take_left]
          have HY : (T.extract (u.length + 2) T.size).data.toList = v := by
            rw [Lib.extract_data, Lib.size_eq, huv, show u.length + 2 = (u ++ [32, 43]).length by simp, List.drop_left, List.take_of_length_le (by simp; omega)]
          have N1 := fun wx => refSpanOf_any (T.extract 0 u.length) (by rw [Lib.size_eq, HX]; omega) wx
          have N2 := fun wx => refSpanOf_any (T.extract (u.length + 2) T.size) (by rw [Lib.size_eq, HY]; omega) wx
          rw [HX] at N1
          rw [HY] at N2
          obtain ⟨k, hk⟩ : ∃ k, u.length = k := ⟨_, rfl⟩
          have s1 : IntKind.i64.wrap ((k : Int) + 2) = (k : Int) + 2 := IntWalk.i64_in _ (by omega)
          rw [hk] at HF N1 N2 hl
          have hl2 : k + 2 ≤ T.size := by omega
          clear hc hix HX HY huv hk hl
          refine HF.mono ?_
          rintro e w1 ⟨rfl, rfl⟩
          rename World => w0
          clear HF
          cases h1 : spanOf u with
          | none =>
            rw [h1] at HT N1
            have HT : Hid (headOf s.data.toList = none) := HT
            cases h2 : spanOf v with
            | none =>
              rw [h2] at N2
              unfold spanR at N1 N2
              have N1 := fun wx => Lib.hid (N1 wx)
              have N2 := fun wx => Lib.hid (N2 wx)
              clear h1 h2
              go_wp2_with fail
              refine (N1 _).out.mono ?_
              rintro e w1 ⟨rfl, rfl⟩
              go_wp2_with fail
              refine (N2 _).out.mono ?_
              rintro e w1 ⟨rfl, rfl⟩
              clear N1 N2 s1
              have hBF := ((hB.set0 (.int .i64 0)).set1 (.int .i64 0)).set2 (.slice none 0 0)
              have hCF := ((hA.setCell (p := ⟨wb, 0, none⟩) (.inl hwb) (.int .i64 0)).setCell (p := ⟨wb, 1, none⟩) (.inl hwb) (.int .i64 0)).setCell (p := ⟨wb, 2, none⟩) (.inl hwb) (.slice none 0 0)
              clear S0 S1 S2
              go_wp2_with fail
              obtain ⟨d0, d1, d2⟩ := hBF.cell
              refine bodyPost_ret (v := headV 0 0 0 0 false) (by simp [headV, results, Tryz.results47, go_sem, d0, d1, d2]) rfl ?_
              exact ⟨0, 0, 0, 0, false, rfl, hCF, .inl ⟨rfl, HT.out⟩⟩
            | some q =>
              obtain ⟨b, y⟩ := q
              rw [h2] at N2
              unfold spanR at N1 N2
              have N1 := fun wx => Lib.hid (N1 wx)
              have N2 := fun wx => Lib.hid (N2 wx)
              clear h1 h2
              go_wp2_with fail
              refine (N1 _).out.mono ?_
              rintro e w1 ⟨rfl, rfl⟩
              go_wp2_with fail
              refine (N2 _).out.mono ?_
              rintro e w1 ⟨rfl, rfl⟩
              clear N1 N2 s1
              have hBF := ((hB.set0 (.int .i64 0)).set1 (.int .i64 b)).set2 (.slice none 0 0)
              have hCF := ((hA.setCell (p := ⟨wb, 0, none⟩) (.inl hwb) (.int .i64 0)).setCell (p := ⟨wb, 1, none⟩) (.inl hwb) (.int .i64 b)).setCell (p := ⟨wb, 2, none⟩) (.inl hwb) (.slice none 0 0)
              clear S0 S1 S2
              go_wp2_with fail
              obtain ⟨d0, d1, d2⟩ := hBF.cell
              refine bodyPost_ret (v := headV 0 b 0 y false) (by simp [headV, results, Tryz.results47, go_sem, d0, d1, d2]) rfl ?_
              exact ⟨0, b, 0, y, false, rfl, hCF, .inl ⟨rfl, HT.out⟩⟩
          | some q =>
            obtain ⟨a, x⟩ := q
            rw [h1] at HT N1
            simp only at HT
            cases h2 : spanOf v with
            | none =>
              rw [h2] at N2 HT
              have HT : Hid (headOf s.data.toList = none) := HT
              unfold spanR at N1 N2
              have N1 := fun wx => Lib.hid (N1 wx)
              have N2 := fun wx => Lib.hid (N2 wx)
              clear h1 h2
              go_wp2_with fail
              refine (N1 _).out.mono ?_
              rintro e w1 ⟨rfl, rfl⟩
              go_wp2_with fail
              refine (N2 _).out.mono ?_
              rintro e w1 ⟨rfl, rfl⟩
              clear N1 N2 s1
              have hBF := ((hB.set0 (.int .i64 a)).set1 (.int .i64 0)).set2 (.slice none 0 0)
              have hCF := ((hA.setCell (p := ⟨wb, 0, none⟩) (.inl hwb) (.int .i64 a)).setCell (p := ⟨wb, 1, none⟩) (.inl hwb) (.int .i64 0)).setCell (p := ⟨wb, 2, none⟩) (.inl hwb) (.slice none 0 0)
              clear S0 S1 S2
              go_wp2_with fail
              obtain ⟨d0, d1, d2⟩ := hBF.cell
              refine bodyPost_ret (v := headV a 0 x 0 false) (by simp [headV, results, Tryz.results47, go_sem, d0, d1, d2]) rfl ?_
              exact ⟨a, 0, x, 0, false, rfl, hCF, .inl ⟨rfl, HT.out⟩⟩
            | some q =>
              obtain ⟨b, y⟩ := q
              rw [h2] at N2 HT
              have HT : Hid (headOf s.data.toList = some (a, x, b, y)) := HT
              unfold spanR at N1 N2
              have N1 := fun wx => Lib.hid (N1 wx)
              have N2 := fun wx => Lib.hid (N2 wx)
              clear h1 h2
              go_wp2_with fail
              refine (N1 _).out.mono ?_
              rintro e w1 ⟨rfl, rfl⟩
              go_wp2_with fail
              refine (N2 _).out.mono ?_
              rintro e w1 ⟨rfl, rfl⟩
              clear N1 N2 s1
              have hBF := ((hB.set0 (.int .i64 a)).set1 (.int .i64 b)).set2 (.slice none 0 0)
              have hCF := ((hA.setCell (p := ⟨wb, 0, none⟩) (.inl hwb) (.int .i64 a)).setCell (p := ⟨wb, 1, none⟩) (.inl hwb) (.int .i64 b)).setCell (p := ⟨wb, 2, none⟩) (.inl hwb) (.slice none 0 0)
              clear S0 S1 S2
              go_wp2_with fail
              obtain ⟨d0, d1, d2⟩ := hBF.cell
              refine bodyPost_ret (v := headV a b x y true) (by simp [headV, results, Tryz.results47, go_sem, d0, d1, d2]) rfl ?_
              exact ⟨a, b, x, y, true, rfl, hCF, .inr ⟨rfl, HT.out⟩⟩
end Go.Proofs.YtmojaahkcpgfkaaGreatDoor
namespace Go.Proofs.YtmojaahkcpgfkaaGreatDoor

def TakInv (D : List (List UInt8)) (R : List Hunk × Nat × Bool) (k : Nat) (hs : List Hunk) (o n : Nat) : Prop := refTake (D.drop k) k hs o n = R
theorem tak_start (D : List (List UInt8)) (i : Nat) : TakInv D (refTake (D.drop i) i [] 0 0) i [] 0 0 := rfl
theorem tak_end {D : List (List UInt8)} {R : List Hunk × Nat × Bool} {k : Nat} {hs : List Hunk} {o n : Nat} (h : TakInv D R k hs o n) (hk : D.length ≤ k) : R = if 0 < o ∨ 0 < n then ([], k, false) else (hs, k, true) := by
  unfold TakInv at h
  rw [List.drop_of_length_le hk, refTake] at h
  exact h.symm
theorem tak_open {D : List (List UInt8)} {R : List Hunk × Nat × Bool} {k : Nat} {hs : List Hunk} {o n : Nat} (h : TakInv D R k hs o n) (hk : D.length ≤ k) (ho : 0 < o ∨ 0 < n) : R = ([], k, false) := by rw [tak_end h hk, if_pos ho]
theorem tak_done {D : List (List UInt8)} {R : List Hunk × Nat × Bool} {k : Nat} {hs : List Hunk} (h : TakInv D R k hs 0 0) (hk : D.length ≤ k) : R = (hs, k, true) := by rw [tak_end h hk, if_neg (by omega)]
theorem tak_stop {D : List (List UInt8)} {R : List Hunk × Nat × Bool} {k : Nat} {hs : List Hunk} {s : List UInt8} (h : TakInv D R k hs 0 0) (hx : D[k]? = some s) (hh : hunkHead s = false) : R = (hs, k, true) := by
  unfold TakInv at h
  obtain ⟨hk, rfl⟩ := List.getElem?_eq_some_iff.1 hx
  rw [List.drop_eq_getElem_cons hk, refTake, if_neg (by rw [hh]; simp)] at h
  exact h.symm
theorem tak_bad {D : List (List UInt8)} {R : List Hunk × Nat × Bool} {k : Nat} {hs : List Hunk} {o n : Nat} {s : List UInt8} (h : TakInv D R k hs o n) (hx : D[k]? = some s) (hh : (0 < o ∨ 0 < n) ∨ hunkHead s = true) (hr : readLine hs o n s = none) : R = ([], k, false) := by
  unfold TakInv at h
  obtain ⟨hk, rfl⟩ := List.getElem?_eq_some_iff.1 hx
  rw [List.drop_eq_getElem_cons hk, refTake, if_pos hh, hr] at h
  exact h.symm
theorem tak_step {D : List (List UInt8)} {R : List Hunk × Nat × Bool} {k : Nat} {hs hs' : List Hunk} {o n o' n' : Nat} {s : List UInt8} (h : TakInv D R k hs o n) (hx : D[k]? = some s) (hh : (0 < o ∨ 0 < n) ∨ hunkHead s = true) (hr : readLine hs o n s = some (hs', o', n')) : TakInv D R (k + 1) hs' o' n' := by
  unfold TakInv at *
  obtain ⟨hk, rfl⟩ := List.getElem?_eq_some_iff.1 hx
  rw [List.drop_eq_getElem_cons hk, refTake, if_pos hh, hr] at h
  exact h
/-- a head -/
theorem read_head {hs : List Hunk} {s : List UInt8} : readLine hs 0 0 s = match headOf s with
    | none => none
    | some (a, x, b, y) => some (hs ++ [⟨a, b, []⟩], x, y) := by
  unfold readLine
  rw [if_neg (by omega)]
  try rfl
theorem tak_head_bad {D : List (List UInt8)} {R : List Hunk × Nat × Bool} {k : Nat} {hs : List Hunk} {s : List UInt8} (h : TakInv D R k hs 0 0) (hx : D[k]? = some s) (hh : hunkHead s = true) (hr : headOf s = none) : R = ([], k, false) :=
  tak_bad h hx (.inr hh) (by rw [read_head, hr])
theorem tak_head {D : List (List UInt8)} {R : List Hunk × Nat × Bool} {k : Nat} {hs : List Hunk} {s : List UInt8} {a b : Int} {x y : Nat} (h : TakInv D R k hs 0 0) (hx : D[k]? = some s) (hh : hunkHead s = true) (hr : headOf s = some (a, x, b, y)) : TakInv D R (k + 1) (hs ++ [⟨a, b, []⟩]) x y :=
  tak_step h hx (.inr hh) (by rw [read_head, hr])
/-- a mark -/
theorem tak_nil {D : List (List UInt8)} {R : List Hunk × Nat × Bool} {k : Nat} {hs : List Hunk} {o n : Nat} (h : TakInv D R k hs o n) (hx : D[k]? = some []) (ho : 0 < o ∨ 0 < n) : R = ([], k, false) :=
  tak_bad h hx (.inl ho) (by unfold readLine; rw [if_pos ho])
theorem tak_keep {D : List (List UInt8)} {R : List Hunk × Nat × Bool} {k : Nat} {hs : List Hunk} {g : Hunk} {o n : Nat} {r : List UInt8} (h : TakInv D R k (hs ++ [g]) o n) (hx : D[k]? = some (32 :: r)) (h1 : 0 < o) (h2 : 0 < n) : TakInv D R (k + 1) (hs ++ [⟨g.old, g.new, g.marks ++ [⟨32, toB r⟩]⟩]) (o - 1) (n - 1) :=
  tak_step h hx (.inl (.inl h1)) (by unfold readLine; rw [if_pos (.inl h1)]; simp only; rw [if_pos ⟨trivial, h1, h2⟩, add_mark])
theorem tak_take {D : List (List UInt8)} {R : List Hunk × Nat × Bool} {k : Nat} {hs : List Hunk} {g : Hunk} {o n : Nat} {r : List UInt8} (h : TakInv D R k (hs ++ [g]) o n) (hx : D[k]? = some (45 :: r)) (h1 : 0 < o) : TakInv D R (k + 1) (hs ++ [⟨g.old, g.new, g.marks ++ [⟨45, toB r⟩]⟩]) (o - 1) n :=
  tak_step h hx (.inl (.inl h1)) (by unfold readLine; rw [if_pos (.inl h1)]; simp only; rw [if_neg (by simp), if_pos ⟨trivial, h1⟩, add_mark])
theorem tak_put {D : List (List UInt8)} {R : List Hunk × Nat × Bool} {k : Nat} {hs : List Hunk} {g : Hunk} {o n : Nat} {r : List UInt8} (h : TakInv D R k (hs ++ [g]) o n) (hx : D[k]? = some (43 :: r)) (h1 : 0 < n) : TakInv D R (k + 1) (hs ++ [⟨g.old, g.new, g.marks ++ [⟨43, toB r⟩]⟩]) o (n - 1) :=
  tak_step h hx (.inl (.inr h1)) (by unfold readLine; rw [if_pos (.inr h1)]; simp only; rw [if_neg (by simp), if_neg (by simp), if_pos ⟨trivial, h1⟩, add_mark])
theorem tak_keep_bad {D : List (List UInt8)} {R : List Hunk × Nat × Bool} {k : Nat} {hs : List Hunk} {o n : Nat} {r : List UInt8} (h : TakInv D R k hs o n) (hx : D[k]? = some (32 :: r)) (ho : 0 < o ∨ 0 < n) (h1 : o = 0 ∨ n = 0) : R = ([], k, false) :=
  tak_bad h hx (.inl ho) (by unfold readLine; rw [if_pos ho]; simp only; rw [if_neg (by omega), if_neg (by simp), if_neg (by simp)])
theorem tak_take_bad {D : List (List UInt8)} {R : List Hunk × Nat × Bool} {k : Nat} {hs : List Hunk} {o n : Nat} {r : List UInt8} (h : TakInv D R k hs o n) (hx : D[k]? = some (45 :: r)) (ho : 0 < o ∨ 0 < n) (h1 : o = 0) : R = ([], k, false) :=
  tak_bad h hx (.inl ho) (by unfold readLine; rw [if_pos ho]; simp only; rw [if_neg (by simp), if_neg (by omega), if_neg (by simp)])
theorem tak_put_bad {D : List (List UInt8)} {R : List Hunk × Nat × Bool} {k : Nat} {hs : List Hunk} {o n : Nat} {r : List UInt8} (h : TakInv D R k hs o n) (hx : D[k]? = some (43 :: r)) (ho : 0 < o ∨ 0 < n) (h1 : n = 0) : R = ([], k, false) :=
  tak_bad h hx (.inl ho) (by unfold readLine; rw [if_pos ho]; simp only; rw [if_neg (by simp), if_neg (by simp), if_neg (by omega)])
theorem tak_sign_bad {D : List (List UInt8)} {R : List Hunk × Nat × Bool} {k : Nat} {hs : List Hunk} {o n : Nat} {c : UInt8} {r : List UInt8} (h : TakInv D R k hs o n) (hx : D[k]? = some (c :: r)) (ho : 0 < o ∨ 0 < n) (h1 : c ≠ 32) (h2 : c ≠ 45) (h3 : c ≠ 43) : R = ([], k, false) :=
  tak_bad h hx (.inl ho) (by unfold readLine; rw [if_pos ho]; simp only; rw [if_neg (fun q => h1 q.1), if_neg (fun q => h2 q.1), if_neg (fun q => h3 q.1)])
end Go.Proofs.YtmojaahkcpgfkaaGreatDoor
namespace Go.Proofs.YtmojaahkcpgfkaaGreatDoor

theorem spanOf_lt {s : List UInt8} {a : Int} {x : Nat} (h : spanOf s = some (a, x)) : x < 1000 := by
  unfold spanOf at h
  cases hc : cutSub [44] s with
  | none => rw [hc] at h; cases h
  | some p =>
    obtain ⟨u, v⟩ := p
    rw [hc] at h
    simp only at h
    cases hu : numOf u with
    | none => rw [hu] at h; cases h
    | some y =>
      cases hv : numOf v with
      | none => rw [hu, hv] at h; cases h
      | some z =>
        have := numOf_lt hv
        rw [hu, hv] at h
        simp only at h
        split at h
        · split at h
          · cases h
          · injection h with h; injection h with _ h; omega
        · injection h with h; injection h with _ h; omega
theorem headOf_lt {s : List UInt8} {a b : Int} {x y : Nat} (h : headOf s = some (a, x, b, y)) : x < 1000 ∧ y < 1000 := by
  unfold headOf at h
  cases h1 : dropPre atAt s with
  | none => rw [h1] at h; cases h
  | some r =>
    rw [h1] at h
    simp only at h
    cases h2 : dropSuf endAt r with
    | none => rw [h2] at h; cases h
    | some m =>
      rw [h2] at h
      simp only at h
      cases h3 : cutSub [32, 43] m with
      | none => rw [h3] at h; cases h
      | some p =>
        obtain ⟨u, v⟩ := p
        rw [h3] at h
        simp only at h
        cases h4 : spanOf u with
        | none => rw [h4] at h; cases h
        | some p =>
          obtain ⟨a', x'⟩ := p
          rw [h4] at h
          simp only at h
          cases h5 : spanOf v with
          | none => rw [h5] at h; cases h
          | some p =>
            obtain ⟨b', y'⟩ := p
            rw [h5] at h
            simp only [Option.some.injEq, Prod.mk.injEq] at h
            obtain ⟨-, rfl, -, rfl⟩ := h
            exact ⟨spanOf_lt h4, spanOf_lt h5⟩
theorem addMark_len : ∀ (hs : List Hunk) (m : Mark), (addMark hs m).length = hs.length
  | [], _ => rfl
  | [_], _ => rfl
  | h :: k :: r, m => by
    show (h :: addMark (k :: r) m).length = _
    rw [List.length_cons, addMark_len (k :: r) m]; rfl
theorem addMark_marks : ∀ (hs : List Hunk) (m : Mark) (j : Nat), (∀ h ∈ hs, h.marks.length ≤ j) → ∀ h ∈ addMark hs m, h.marks.length ≤ j + 1
  | [], _, _, _, _, hh => by cases hh
  | [h], m, j, hb, x, hx => by
    have := hb h (List.mem_cons_self ..)
    simp only [addMark, List.mem_cons, List.not_mem_nil, or_false] at hx
    subst hx
    simp only [List.length_append, List.length_cons, List.length_nil]
    omega
  | h :: k :: r, m, j, hb, x, hx => by
    rcases List.mem_cons.1 (show x ∈ h :: addMark (k :: r) m from hx) with rfl | hx
    · have := hb x (List.mem_cons_self ..); omega
    · exact addMark_marks (k :: r) m j (fun y hy => hb y (List.mem_cons_of_mem _ hy)) x hx
/-- what a reader holds behind j lines -/
structure RdB (hs : List Hunk) (o n j : Nat) : Prop where
  ok : RdOk hs o n
  len : hs.length ≤ j
  marks : ∀ h ∈ hs, h.marks.length ≤ j
  on : o < 1000 ∧ n < 1000
theorem rdB_start : RdB [] 0 0 0 := ⟨rdOk_start, Nat.le_refl _, fun _ h => (by cases h), by decide, by decide⟩
theorem rdB_step {hs hs' : List Hunk} {o n o' n' j : Nat} {s : List UInt8} (h : RdB hs o n j) (hr : readLine hs o n s = some (hs', o', n')) : RdB hs' o' n' (j + 1) := by
  have hok := readLine_ok h.ok hr
  refine ⟨fun _ => hok, ?_, ?_, ?_⟩
  all_goals
    have hl := h.len
    have hm := h.marks
    have hon := h.on
    unfold readLine at hr
    by_cases q : 0 < o ∨ 0 < n
    · rw [if_pos q] at hr
      cases s with
      | nil => cases hr
      | cons c r =>
        simp only at hr
        split at hr
        · injection hr with hr; injection hr with h1 h2; injection h2 with h2 h3; subst h1; subst h2; subst h3
          first | (rw [addMark_len]; omega) | exact addMark_marks _ _ _ hm | (constructor <;> omega)
        · split at hr
          · injection hr with hr; injection hr with h1 h2; injection h2 with h2 h3; subst h1; subst h2; subst h3
            first | (rw [addMark_len]; omega) | exact addMark_marks _ _ _ hm | (constructor <;> omega)
          · split at hr
            · injection hr with hr; injection hr with h1 h2; injection h2 with h2 h3; subst h1; subst h2; subst h3
              first | (rw [addMark_len]; omega) | exact addMark_marks _ _ _ hm | (constructor <;> omega)
            · cases hr
    · rw [if_neg q] at hr
      cases hd : headOf s with
      | none => rw [hd] at hr; cases hr
      | some p =>
        obtain ⟨a, x, b, y⟩ := p
        have hxy := headOf_lt hd
        rw [hd] at hr
        simp only [Option.some.injEq, Prod.mk.injEq] at hr
        obtain ⟨rfl, rfl, rfl⟩ := hr
        first
          | (rw [List.length_append]; simp only [List.length_cons, List.length_nil]; omega)
          | exact hxy
          | (intro k hk
             rcases List.mem_append.1 hk with hk | hk
             · have := hm k hk; omega
             · simp only [List.mem_cons, List.not_mem_nil, or_false] at hk
               subst hk
               exact Nat.zero_le _)
/-- the hunks of a change: what is read from here on is what was read from the start -/
structure TakeInv (R l : List (List UInt8)) (hs : List Hunk) (o n : Nat) : Prop where
  take : takeU l hs o n = takeU R [] 0 0
theorem tinv_start (R : List (List UInt8)) : TakeInv R R [] 0 0 := ⟨rfl⟩
theorem tinv_step {R l : List (List UInt8)} {hs hs' : List Hunk} {o n o' n' : Nat} {s : List UInt8} (h : TakeInv R (s :: l) hs o n) (hc : (0 < o ∨ 0 < n) ∨ hunkHead s = true) (hr : readLine hs o n s = some (hs', o', n')) : TakeInv R l hs' o' n' :=
  ⟨by rw [← h.take, take_cons hc hr]⟩
theorem tinv_bad {R l : List (List UInt8)} {hs : List Hunk} {o n : Nat} {s : List UInt8} (h : TakeInv R (s :: l) hs o n) (hc : (0 < o ∨ 0 < n) ∨ hunkHead s = true) (hr : readLine hs o n s = none) : takeU R [] 0 0 = none := by
  rw [← h.take, takeU, if_pos hc, hr]
theorem tinv_open {R : List (List UInt8)} {hs : List Hunk} {o n : Nat} (h : TakeInv R [] hs o n) (hc : 0 < o ∨ 0 < n) : takeU R [] 0 0 = none := by
  rw [← h.take, takeU, if_pos hc]
theorem tinv_end {R l : List (List UInt8)} {hs : List Hunk} {o n : Nat} (h : TakeInv R l hs o n) (hc : ¬ (0 < o ∨ 0 < n)) (hl : ∀ s r, l = s :: r → hunkHead s = false) : takeU R [] 0 0 = some (hs, l) := by
  rw [← h.take]
  cases l with
  | nil => rw [takeU, if_neg hc]
  | cons s r => rw [takeU, if_neg (fun q => q.elim hc (fun q => by rw [hl s r rfl] at q; cases q))]
end Go.Proofs.YtmojaahkcpgfkaaGreatDoor
namespace Go.Proofs.YtmojaahkcpgfkaaGreatDoor

def GoInv (D : List (List UInt8)) (k : Nat) (hs : List Hunk) (o n : Nat) : Prop := goU (D.drop k) k hs o n = goU D 0 [] 0 0
theorem ginv_start (D : List (List UInt8)) : GoInv D 0 [] 0 0 := rfl
theorem ginv_step {D : List (List UInt8)} {k : Nat} {hs hs' : List Hunk} {o n o' n' : Nat} {s : List UInt8} (h : GoInv D k hs o n) (hx : D[k]? = some s) (hr : readLine hs o n s = some (hs', o', n')) : GoInv D (k + 1) hs' o' n' := by
  unfold GoInv at *
  obtain ⟨hk, rfl⟩ := List.getElem?_eq_some_iff.1 hx
  rw [List.drop_eq_getElem_cons hk, goU, hr] at h
  exact h
theorem ginv_bad {D : List (List UInt8)} {k : Nat} {hs : List Hunk} {o n : Nat} {s : List UInt8} (h : GoInv D k hs o n) (hx : D[k]? = some s) (hr : readLine hs o n s = none) : goU D 0 [] 0 0 = (some k, hs, o, n) := by
  unfold GoInv at h
  obtain ⟨hk, rfl⟩ := List.getElem?_eq_some_iff.1 hx
  rw [List.drop_eq_getElem_cons hk, goU, hr] at h
  exact h.symm
theorem ginv_end {D : List (List UInt8)} {k : Nat} {hs : List Hunk} {o n : Nat} (h : GoInv D k hs o n) (hk : D.length ≤ k) : goU D 0 [] 0 0 = (none, hs, o, n) := by
  unfold GoInv at h
  rw [List.drop_of_length_le hk, goU] at h
  exact h.symm
/-! ### the text whole: its lines I, what stands behind the last end of line: z -/
theorem pu_long {s : List UInt8} (h : 400000 < s.length) : parseU s = ([], 0, 5) := by unfold parseU; rw [if_pos h]
theorem pu_bad {s z : List UInt8} {I : List (List UInt8)} {k : Nat} {hs : List Hunk} {o n : Nat} (h : s.length ≤ 400000) (hp : parts 10 s = I ++ [z]) (hg : goU I 0 [] 0 0 = (some k, hs, o, n)) : parseU s = ([], k, 5) := by
  unfold parseU
  rw [if_neg (by omega), hp, List.dropLast_concat, hg]
theorem pu_open {s z : List UInt8} {I : List (List UInt8)} {hs : List Hunk} {o n : Nat} (h : s.length ≤ 400000) (hp : parts 10 s = I ++ [z]) (hg : goU I 0 [] 0 0 = (none, hs, o, n)) (ho : 0 < o ∨ 0 < n) : parseU s = ([], I.length, 5) := by
  unfold parseU
  rw [if_neg (by omega), hp, List.dropLast_concat, hg]
  simp only
  rw [if_pos (ho.imp_right .inl), List.length_append]; rfl
theorem pu_last {s z : List UInt8} {I : List (List UInt8)} {hs : List Hunk} {o n : Nat} (h : s.length ≤ 400000) (hp : parts 10 s = I ++ [z]) (hg : goU I 0 [] 0 0 = (none, hs, o, n)) (hz : z ≠ []) : parseU s = ([], I.length, 5) := by
  unfold parseU
  rw [if_neg (by omega), hp, List.dropLast_concat, hg]
  simp only
  rw [if_pos (.inr (.inr (by simpa using hz))), List.length_append]; rfl
theorem pu_fine {s : List UInt8} {I : List (List UInt8)} {hs : List Hunk} {o n : Nat} (h : s.length ≤ 400000) (hp : parts 10 s = I ++ [[]]) (hg : goU I 0 [] 0 0 = (none, hs, o, n)) (ho : ¬ (0 < o ∨ 0 < n)) : parseU s = if (hunksFault hs).2 ≠ 0 then ([], 0, (hunksFault hs).2) else (hs, 0, 0) := by
  unfold parseU
  rw [if_neg (by omega), hp, List.dropLast_concat, hg]
  simp only
  rw [if_neg (by rintro (q | q | q)
                 · exact ho (.inl q)
                 · exact ho (.inr q)
                 · exact q (by simp))]
end Go.Proofs.YtmojaahkcpgfkaaGreatDoor
namespace Go.Proofs.YtmojaahkcpgfkaaGreatDoor
open Go.RowKit

/-- 's[i:j]' as a run, at whatever element type -/
theorem slice_g {P : Program} {t : TypeId} (ht : P.underlying t = some (.slice (P.elem t))) {α : Type} [Dat α] (hsz : ∀ w, (sizeOf (P.elem t)).run P w = .ok (Dat.n α) w) {w0 : World} {O : Nat → Prop} {a : Option Addr} {cap : Nat} {l : List α} (h : Rdv w0 O (.slice a l.length cap) l) (i j : Nat) (hij : i ≤ j) (hj : j ≤ l.length) :
    ∃ b, (∀ (x y : Int) (w : World), x = i → y = j → (Instr.slice t (.slice a l.length cap) (some (.int .i64 x)) (some (.int .i64 y)) none).run P w = .ok (.slice b (j - i) (cap - i)) w) ∧
      (∀ (x : Int) (w : World), x = i → j = l.length → (Instr.slice t (.slice a l.length cap) (some (.int .i64 x)) none none).run P w = .ok (.slice b (j - i) (cap - i)) w) ∧
      (∀ (y : Int) (w : World), i = 0 → y = j → (Instr.slice t (.slice a l.length cap) none (some (.int .i64 y)) none).run P w = .ok (.slice b (j - i) (cap - i)) w) ∧
      Rdv w0 O (.slice b (j - i) (cap - i)) ((l.drop i).take (j - i)) := by
  have hr := rdv_sliced h i j hij hj
  obtain ⟨b, hb⟩ := sliced_isSlice a i j cap (Dat.n α)
  obtain ⟨a', cap', e, h1, h2, h3⟩ := rdv_slice h
  simp only [Value.slice.injEq, true_and] at e
  obtain ⟨rfl, rfl⟩ := e
  refine ⟨b, ?_, ?_, ?_, hb ▸ hr⟩
  · rintro x y w rfl rfl
    rw [run_slice_lh w t a l.length cap ht .i64 .i64 _ _ (by omega) (by omega) (by omega), hsz]
    simp only [Result.andThen_ok, Int.toNat_natCast]
    rw [hb]
  · rintro x w rfl rfl
    rw [run_slice_l w t a l.length cap ht .i64 _ (by omega) (by omega), hsz]
    simp only [Result.andThen_ok, Int.toNat_natCast]
    rw [hb]
  · rintro y w rfl rfl
    rw [run_slice_h w t a l.length cap ht .i64 _ (by omega) (by omega), hsz]
    simp only [Result.andThen_ok, Int.toNat_natCast]
    rw [hb]
end Go.Proofs.YtmojaahkcpgfkaaGreatDoor
namespace Go.Proofs.YtmojaahkcpgfkaaGreatDoor
open Go.RowKit

def linesB (l : List ByteArray) : List (List UInt8) := l.map fun x => x.data.toList
theorem linesB_toB (I : List (List UInt8)) : linesB (I.map toB) = I := by
  unfold linesB
  rw [List.map_map]
  have : ((fun x : ByteArray => x.data.toList) ∘ toB) = id := by funext x; exact toB_data x
  rw [this, List.map_id]
theorem linesB_get {l : List ByteArray} {k : Nat} {x : ByteArray} (h : l[k]? = some x) : (linesB l)[k]? = some x.data.toList := by
  unfold linesB
  rw [List.getElem?_map, h]; rfl
set_option maxHeartbeats 2000000 in
set_option maxRecDepth 100000 in
theorem uniparse_any (s : ByteArray) (w : World) (hs : s.size ≤ 100000000) (m : Int) (hg : Globs w m) :
    Calls Tryz.prog 11 #[.string s] w fun e w' => ∃ r, e = .returned (.tuple #[r, .int .i64 ((parseU s.data.toList).2.1 : Nat), errV (parseU s.data.toList).2.2]) ∧ Chg Never w w' ∧ Rdv w' Never r (parseU s.data.toList).1 := by
  have hsz := Lib.size_eq s
  by_cases hl : 400000 < s.size
  · have HR := Lib.hid (pu_long (s := s.data.toList) (by omega))
    clear hsz
    go_enter Tryz.func11, Tryz.ntmps11
    go_wp2_with fail
    go_ret3
    exact ⟨_, by rw [HR.out]; rfl, Chg.refl _ _, by rw [HR.out]; exact rdv_nil _ _⟩
  · obtain ⟨I, z, hIz⟩ := last_of (parts_ne 10 s.data.toList)
    have hcnt := parts_count 10 s.data.toList
    have hpm := parts_mem 10 s.data.toList
    have HIZ := Lib.hid hIz
    have HSP : Hid (Lib.splitB ⟨#[10]⟩ 0 (Lib.countB s ⟨#[10]⟩) s = I.map toB ++ [toB z]) := by rw [Hid, splitB_parts, hIz, List.map_append]; rfl
    have HLEN : Hid (Lib.countB s ⟨#[10]⟩ + 1 = (I.map toB ++ [toB z]).length) := by
      have := Lib.splitB_all ⟨#[10]⟩ (by decide) 0 _ s rfl
      rw [Hid, ← this, HSP.out]
    have hIl : I.length ≤ 1000000 := by
      rw [hIz, List.length_append] at hcnt
      simp only [List.length_cons, List.length_nil] at hcnt
      omega
    have hIs : Hid (∀ x ∈ I.map toB ++ [toB z], x.size ≤ 1000000000) := by
      intro x hx
      have : ∃ y ∈ parts 10 s.data.toList, x = toB y := by
        rw [hIz]
        rcases List.mem_append.1 hx with hx | hx
        · obtain ⟨y, hy, rfl⟩ := List.mem_map.1 hx
          exact ⟨y, List.mem_append_left _ hy, rfl⟩
        · simp only [List.mem_cons, List.not_mem_nil, or_false] at hx
          exact ⟨z, by simp, hx⟩
      obtain ⟨y, hy, rfl⟩ := this
      have := hpm y hy
      rw [toB_size']
      omega
    have hbL := linesB_toB I
    have hLI : Hid ((I.map toB).length = I.length) := by rw [Hid, List.length_map]
    have hLl : (I.map toB).length ≤ 1000000 := by rw [List.length_map]; exact hIl
    have hl4 : Hid (s.data.toList.length ≤ 400000) := by rw [Hid]; omega
    clear hIz hcnt hpm hIl hsz
    generalize I.map toB = L at HSP HLEN hIs hbL hLl hLI
    subst hbL
    go_enter Tryz.func11, Tryz.ntmps11
    go_wp2_with fail
    have hbox := Blk3.new w 73 (.slice none 0 0) (.int .i64 (0 : Nat)) (.int .i64 (0 : Nat))
    have hA0 : Chg Never w (w.alloc (.cells #[.slice none 0 0, .int .i64 0, .int .i64 0] 73)) := (Chg.refl Never w).alloc _
    have hbox : Blk3 (w.alloc (.cells #[.slice none 0 0, .int .i64 0, .int .i64 0] 73)) w.heap.size 73 (.slice none 0 0) (.int .i64 (0 : Nat)) (.int .i64 (0 : Nat)) := hbox
    generalize w.alloc (.cells #[.slice none 0 0, .int .i64 0, .int .i64 0] 73) = w1 at hbox hA0 ⊢
    have hlt1 := hbox.lt
    refine (Tryz.strings_Split s ⟨#[10]⟩ m _ (by omega) (hA0.cellNever hg.ml) (by decide)).mono ?_
    rintro e w2 ⟨rfl, rfl⟩
    rw [HSP.out, HLEN.out]
    have hA : Chg Never w1 (w1.alloc (.cells ((L ++ [toB z]).map Value.string).toArray 9)) := (Chg.refl Never w1).alloc _
    have hR0 : Rdv (w1.alloc (.cells ((L ++ [toB z]).map Value.string).toArray 9)) (fun k => k = w.heap.size) (.slice (some ⟨w1.heap.size, 0, none⟩) (L ++ [toB z]).length (L ++ [toB z]).length) (L ++ [toB z]) :=
      rdv_strs (heap_alloc_new _ _) (fun e => by omega) rfl (by rw [List.length_append]; simp only [List.length_cons, List.length_nil]; unfold maxLen; omega) (fun x hx => by have := hIs.out x hx; unfold maxLen; omega)
    have hbox := hbox.keep hA (fun h => h)
    have hA := hA0.trans hA
    generalize w1.alloc (.cells ((L ++ [toB z]).map Value.string).toArray 9) = w3 at hR0 hA hbox ⊢
    generalize w1.heap.size = G at hR0 hlt1 ⊢
    obtain ⟨sb, -, -, hrun, hsub⟩ := slice_g (P := Tryz.prog) (t := 56) (by kernel_rfl) size_str hR0 0 L.length (Nat.zero_le _) (by simp)
    obtain ⟨_, _, hq, -, -, hel⟩ := rdv_slice hR0
    simp only [Value.slice.injEq, true_and] at hq
    obtain ⟨rfl, rfl⟩ := hq
    obtain ⟨g, off, hq, hgB, hglt, cz, -⟩ := elems_str hel (i := L.length) (x := toB z) (by simp)
    simp only [Option.some.injEq, Addr.mk.injEq, and_true] at hq
    obtain ⟨rfl, rfl⟩ := hq
    rw [List.drop_zero, Nat.sub_zero, Nat.sub_zero, List.take_left] at hsub
    have hNL : (L ++ [toB z]).length = L.length + 1 := by simp
    rw [hNL] at hrun hsub ⊢
    rw [Nat.sub_zero, Nat.sub_zero] at hrun
    have hrun := fun (wx : World) => hrun (L.length : Nat) wx rfl rfl
    have sw : IntKind.i64.wrap (((L.length + 1 : Nat) : Int) - 1) = (L.length : Int) := by rw [show ((L.length + 1 : Nat) : Int) - 1 = (L.length : Int) by omega]; exact IntWalk.i64_in _ (by omega)
    simp only [Nat.zero_add] at cz
    have hLs : Hid (∀ x ∈ L, x.size ≤ 1000000000) := fun x hx => hIs.out x (List.mem_append_left _ hx)
    obtain ⟨n, hn⟩ : ∃ n, L.length = n := ⟨_, rfl⟩
    have HN := Lib.hid hn
    obtain ⟨_, _, hq, -, -, hel⟩ := rdv_slice hsub
    simp only [Value.slice.injEq, true_and] at hq
    obtain ⟨rfl, rfl⟩ := hq
    have HLL : Hid ((linesB L).length = n) := by rw [Hid]; unfold linesB; rw [List.length_map]; exact hn
    rw [hn] at hrun cz sw hLl ⊢
    obtain ⟨B, hB⟩ : ∃ B, w.heap.size = B := ⟨_, rfl⟩
    have hBw : w.heap.size ≤ B := Nat.le_of_eq hB
    rw [hB] at hbox hgB hel ⊢
    clear hR0 hNL hB hsub hlt1 hA0 hn
    go_wp2_with fail
    clear hrun
    go_loopw [25] (fun iv wr => ∃ (k : Nat) (vr : Value) (hs : List Hunk) (o d : Nat), k ≤ n ∧ iv = .int .i64 k ∧ Chg (RdC w3.heap.size B) w3 wr ∧ RdrAt wr w3.heap.size B vr hs o d ∧ Hid (RdB hs o d k) ∧ Hid (GoInv (linesB L) k hs o d)) (fun iv _ => n - (intOf iv).toNat)
    case atStart => exact ⟨0, _, [], 0, 0, Nat.zero_le _, rfl, Chg.refl _ _, RdrAt.start hbox (Nat.le_refl _), rdB_start, ginv_start _⟩
    case round =>
      obtain ⟨k, vr, hs, o, d, hk, rfl, hc, hR, hB, hI⟩ := hrel
      rename World => wr
      have hw : Chg Never w wr := hA.trans' hc (fun i hi hh => hh.elim (fun e => absurd hi (by omega)) (fun e => absurd hi (by have := hA.size; omega)))
      have hgx := hg.never hw
      have hbx := hR.box
      obtain ⟨va, vn, vc, rfl⟩ := own_isSlice hR.own
      by_cases hlt : k < n
      · obtain ⟨x, hx⟩ : ∃ x, L[k]? = some x := ⟨L[k]'(by have := HN.out; omega), by simp⟩
        obtain ⟨b', off', rfl, hnb, hbl, c0, -⟩ := elems_str hel hx
        have c0 := hc.cell c0 (fun hh => hh.elim hnb (fun e => Nat.not_lt_of_le e hbl))
        have zx := hLs.out x (List.mem_of_getElem? hx)
        have HX := Lib.hid (linesB_get hx)
        clear hx hel
        go_wp2_with fail
        refine (reader_line w3.heap.size B (.slice va vn vc) hs o d x _ hR hB.out.ok zx ⟨by have := hB.out.on; omega, by have := hB.out.on; omega⟩ (by have := hB.out.len; omega) (fun h hh => by have := hB.out.marks h hh; omega) m hgx).mono ?_
        rintro e wy ⟨hcy, hp⟩
        cases hrl : readLine hs o d x.data.toList with
        | none =>
          rw [hrl] at hp
          subst hp
          have HR := Lib.hid (pu_bad hl4.out HIZ.out (ginv_bad hI.out HX.out hrl))
          have hwy : Chg Never w wy := hw.trans' hcy (fun i hi hh => hh.elim (fun e => absurd hi (by omega)) (fun e => absurd hi (by have := hA.size; omega)))
          clear hrl c0
          go_wp2_with fail
          go_ret3
          exact ⟨_, by rw [HR.out]; rfl, hwy, by rw [HR.out]; exact rdv_nil _ _⟩
        | some t =>
          obtain ⟨hs', o', d'⟩ := t
          rw [hrl] at hp
          obtain ⟨rfl, vr', hR'⟩ := hp
          have hI2 := Lib.hid (ginv_step hI.out HX.out hrl)
          have hB2 := Lib.hid (rdB_step hB.out hrl)
          have hcz := hc.trans hcy
          clear hrl c0
          go_wp2_with fail
          go_roundw
          case rel => exact ⟨k + 1, vr', hs', o', d', by omega, by go_num, hcz, hR', hB2, hI2⟩
          case measure => simp [intOf]; omega
      · obtain rfl : k = n := by omega
        have HE := Lib.hid (ginv_end hI.out (Nat.le_of_eq HLL.out))
        have cz := hc.cell cz (fun hh => hh.elim hgB (fun e => Nat.not_lt_of_le e hglt))
        clear hel hI
        by_cases hop : 0 < o ∨ 0 < d
        · have HO := Lib.hid (opn_true hop)
          have HR0 := Lib.hid (pu_open hl4.out HIZ.out HE.out hop)
          have HR : Hid (parseU s.data.toList = ([], k, 5)) := by rw [Hid, HR0.out, HLL.out]
          clear hop
          go_wp2_with fail
          refine (rd_open B (.slice va vn vc) o d _ hbx).mono ?_
          rintro e w4 ⟨rfl, rfl⟩
          rename World => wr
          rw [HO.out]
          go_wp2_with fail
          go_ret3
          exact ⟨_, by rw [HR.out]; rfl, hw, by rw [HR.out]; exact rdv_nil _ _⟩
        · have HO := Lib.hid (opn_false hop)
          cases z with
          | cons c z =>
            have HR0 := Lib.hid (pu_last hl4.out HIZ.out HE.out (by simp))
            have HR : Hid (parseU s.data.toList = ([], k, 5)) := by rw [Hid, HR0.out, HLL.out]
            have tz : (toB (c :: z)).toList = c :: z := by rw [Lib.toList_data, toB_data]
            clear hop
            go_wp2_with fail
            refine (rd_open B (.slice va vn vc) o d _ hbx).mono ?_
            rintro e w4 ⟨rfl, rfl⟩
            rename World => wr
            rw [HO.out]
            go_wp2_with fail
            go_ret3
            exact ⟨_, by rw [HR.out]; rfl, hw, by rw [HR.out]; exact rdv_nil _ _⟩
          | nil =>
            have HR0 := Lib.hid (pu_fine hl4.out HIZ.out HE.out hop)
            have tz : (toB []).toList = [] := by rw [Lib.toList_data, toB_data]
            have hv : Rdv wr Never (.slice va vn vc) hs := hR.rdv.sub (fun _ _ h => h.elim)
            obtain ⟨x0, -, -⟩ := hbx.cell
            clear hop
            go_wp2_with fail
            refine (rd_open B (.slice va vn vc) o d _ hbx).mono ?_
            rintro e w4 ⟨rfl, rfl⟩
            rename World => wr
            rw [HO.out]
            go_wp2_with fail
            refine (hunk_check_any hs _ _ hv).mono ?_
            rintro e w5 ⟨rfl, hc5⟩
            have hv5 := hv.never hc5
            have x0 := hc5.cellNever x0
            have hw5 := hw.trans hc5
            generalize (hunksFault hs).1 = at0
            by_cases hz : (hunksFault hs).2 = 0
            · have HR : Hid (parseU s.data.toList = (hs, 0, 0)) := by rw [Hid, HR0.out, if_neg (by rw [hz]; decide)]
              rw [hz, errV_zero]
              clear hz
              go_wp2_with fail
              go_ret3
              exact ⟨_, by rw [HR.out]; rfl, hw5, by rw [HR.out]; exact hv5⟩
            · have HR : Hid (parseU s.data.toList = ([], 0, (hunksFault hs).2)) := by rw [Hid, HR0.out, if_pos hz]
              have HZ := Lib.hid hz
              rw [errV_pos hz]
              clear hz
              go_wp2_with fail
              go_ret3
              exact ⟨.slice none 0 0, by rw [HR.out]; show _ = Ending.returned (.tuple #[.slice none 0 0, .int .i64 0, errV (hunksFault hs).2]); rw [errV_pos HZ.out]; rfl, hw5, by rw [HR.out]; exact rdv_nil _ _⟩
end Go.Proofs.YtmojaahkcpgfkaaGreatDoor
namespace Go.Proofs.YtmojaahkcpgfkaaGreatDoor
open Go.RowKit

theorem own_out {α : Type} [Dat α] {e : TypeId} {w : World} {O : Nat → Prop} {v : Value} {l : List α} (h : Own e w O v l) : ∀ k, v.ownBlock = some k → ¬ O k := by
  obtain ⟨_, _, q, _⟩ := h
  exact q
end Go.Proofs.YtmojaahkcpgfkaaGreatDoor
namespace Go.Proofs.YtmojaahkcpgfkaaGreatDoor
open Go.RowKit

theorem wholeR_nil (s : Int) : wholeR [] s = [] := if_pos rfl
theorem wholeR_some {l : List ByteArray} (h : l ≠ []) (s : Int) : wholeR l s = [⟨0, 0, l.map fun x => ⟨s, x⟩⟩] := if_neg h
theorem sign_take {l : List ByteArray} {k : Nat} {x : ByteArray} {s : Int} (hx : l[k]? = some x) : (l.take (k + 1)).map (fun x => (⟨s, x⟩ : Mark)) = (l.take k).map (fun x => (⟨s, x⟩ : Mark)) ++ [⟨s, x⟩] := by
  rw [List.take_add_one, hx]; simp
theorem rdv_lit_hunk {w : World} {x : Hunk} {mv : Value} {t : TypeId} (h : Rdv w Never mv x.marks) : Rdv (w.alloc (.cells #[.int .i64 x.old, .int .i64 x.new, mv] t)) Never (.slice (some ⟨w.heap.size, 0, none⟩) 1 1) [x] :=
  rdv_lit (e := t) (cs := [.int .i64 x.old, .int .i64 x.new, mv]) (heap_alloc_new _ _) rfl (by decide) ⟨⟨mv, rfl, h.never ((Chg.refl Never w).alloc _)⟩, trivial⟩
theorem rdv_hunkO {w : World} {O : Nat → Prop} {x : Hunk} {mv : Value} {t : TypeId} (h : Rdv w O mv x.marks) (hO : ¬ O w.heap.size) : Rdv (w.alloc (.cells #[.int .i64 x.old, .int .i64 x.new, mv] t)) O (.slice (some ⟨w.heap.size, 0, none⟩) 1 1) [x] := by
  refine ⟨some ⟨w.heap.size, 0, none⟩, 1, rfl, Nat.le_refl _, by decide, ?_⟩
  intro i y hy
  obtain rfl : i = 0 := by
    cases i with
    | zero => rfl
    | succ i => simp at hy
  simp only [List.getElem?_cons_zero, Option.some.injEq] at hy
  subst hy
  refine ⟨w.heap.size, 0, [.int .i64 x.old, .int .i64 x.new, mv], rfl, hO, ?_, ⟨mv, rfl, h.never ((Chg.refl Never w).alloc _)⟩⟩
  intro j u hj
  simp only [World.cell?, heap_alloc_new]
  simpa using hj
end Go.Proofs.YtmojaahkcpgfkaaGreatDoor
