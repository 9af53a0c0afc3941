/-
  THE LAW HunkCovers, walked.
-/
import Derived.Test.YtlflhehlbnbhgaaTurn
namespace Go.Proofs.Ytlflhehlbnbhgaa
open Go.RowKit

abbrev tA : ByteArray := ⟨#[97]⟩
abbrev tB : ByteArray := ⟨#[98]⟩
theorem cut_ab : cutFault [⟨32, tA⟩, ⟨43, tB⟩] 0 = 0 ∧ cutR [⟨32, tA⟩, ⟨43, tB⟩] 0 = [⟨1, 1, [⟨43, tB⟩]⟩] := by decide +kernel

theorem manyChanges_take {l : List Hunk} {k : Nat} {x : Hunk} (hx : l[k]? = some x) : manyChanges (l.take (k + 1)) = manyChanges (l.take k) + changes x.marks := by
  rw [List.take_add_one, hx]; simp [manyChanges]
theorem manyChanges_append (a b : List Hunk) : manyChanges (a ++ b) = manyChanges a + manyChanges b := by simp [manyChanges]
theorem manyChanges_le (l : List Hunk) (k : Nat) : manyChanges (l.take k) ≤ manyChanges l := by
  have := manyChanges_append (l.take k) (l.drop k)
  rw [List.take_append_drop] at this
  omega


set_option maxHeartbeats 2000000 in
set_option maxRecDepth 100000 in
theorem covers_bad (s : List Mark) (n m : Int) (v : Value) (w : World) (hs : Rdv w Never v s) (hn : I64 n) (hm : I64 m)
    (HZ : Hid (cutFault s n ≠ 0)) :
    Calls Try.prog 3 #[v, .int .i64 n, .int .i64 m] w fun e w' => e = .returned (.bool true) ∧ Chg Never w w' := by
  go_enter Try.func3, Try.ntmps3
  go_wp2_with fail
  refine (Cut_any [⟨32, tA⟩, ⟨43, tB⟩] 0 _ _ (rdv_lit (e := 29) (cs := [.int .u8 32, .string tA, .int .u8 43, .string tB]) (heap_alloc_new _ _) rfl (by decide) ⟨rd_mark _ _ 32 tA (by decide) (by decide) (by decide), rd_mark _ _ 43 tB (by decide) (by decide) (by decide), trivial⟩) (by unfold I64; omega)).mono ?_
  rintro e w1 ⟨r1, rfl, hc1, hr1⟩
  have hw : Chg Never w w1 := ((Chg.refl Never w).alloc _).trans hc1
  clear hc1
  rw [cut_ab.1, errV_zero]
  rw [cut_ab.2] at hr1
  obtain ⟨fa, fcap, rfl, _, _, hel⟩ := rdv_slice hr1
  obtain ⟨fb, fo, fm, rfl, _, _, f0, f1, f2, hfm⟩ := elems_hunk hel (i := 0) rfl
  obtain ⟨ma, mcap, rfl, _, _, _⟩ := rdv_slice hfm
  simp only [Nat.zero_mul, Nat.add_zero] at f0 f1 f2
  clear hr1 hel hfm
  go_wp2_with fail
  clear f0 f1 f2
  refine (Cut_any s n _ _ (hs.never hw) hn).mono ?_
  rintro e w2 ⟨r2, rfl, hc2, hr2⟩
  have hw := hw.trans hc2
  clear hc2
  have hr2 := hr2.sub (O' := Never) (fun _ _ h => h.elim)
  rw [errV_pos HZ.out]
  go_wp2_with fail
  go_ret
  exact ⟨rfl, hw⟩

set_option maxHeartbeats 2000000 in
set_option maxRecDepth 100000 in
theorem covers_ok (s : List Mark) (n m : Int) (v : Value) (w : World) (hs : Rdv w Never v s) (hn : I64 n) (hm : I64 m)
    (HZ : Hid (cutFault s n = 0)) :
    Calls Try.prog 3 #[v, .int .i64 n, .int .i64 m] w fun e w' => e = .returned (.bool true) ∧ Chg Never w w' := by
  obtain ⟨z1, z2, z3, z4, z5⟩ := cutFault_zero HZ.out
  have hlen := scriptFault_len z1
  have HCR : Hid (cutR s n = cutOf s n) := if_pos HZ.out
  have HK := Lib.hid (cut_ok HZ.out)
  have HM := Lib.hid (cut_many (s := s) z2)
  have HC := Lib.hid (cut_200 hlen)
  have HF2 := Lib.hid (cutFault_of (m := 200) HZ.out (by omega) (by omega))
  have HMONO := fun (h : n ≤ m) => cut_mono (s := s) z2 h
  have hcl : changes s ≤ 120 := Nat.le_trans (changes_le s) hlen
  clear z1
  go_enter Try.func3, Try.ntmps3
  go_wp2_with fail
  refine (Cut_any [⟨32, tA⟩, ⟨43, tB⟩] 0 _ _ (rdv_lit (e := 29) (cs := [.int .u8 32, .string tA, .int .u8 43, .string tB]) (heap_alloc_new _ _) rfl (by decide) ⟨rd_mark _ _ 32 tA (by decide) (by decide) (by decide), rd_mark _ _ 43 tB (by decide) (by decide) (by decide), trivial⟩) (by unfold I64; omega)).mono ?_
  rintro e w1 ⟨r1, rfl, hc1, hr1⟩
  have hw : Chg Never w w1 := ((Chg.refl Never w).alloc _).trans hc1
  clear hc1
  rw [cut_ab.1, errV_zero]
  rw [cut_ab.2] at hr1
  obtain ⟨fa, fcap, rfl, _, _, hel⟩ := rdv_slice hr1
  obtain ⟨fb, fo, fm, rfl, _, _, f0, f1, f2, hfm⟩ := elems_hunk hel (i := 0) rfl
  obtain ⟨ma, mcap, rfl, _, _, _⟩ := rdv_slice hfm
  simp only [Nat.zero_mul, Nat.add_zero] at f0 f1 f2
  clear hr1 hel hfm
  go_wp2_with fail
  clear f0 f1 f2
  refine (Cut_any s n _ _ (hs.never hw) hn).mono ?_
  rintro e w2 ⟨r2, rfl, hc2, hr2⟩
  have hw := hw.trans hc2
  clear hc2
  have hr2 := hr2.sub (O' := Never) (fun _ _ h => h.elim)
  rw [HZ.out, errV_zero]
  rw [HCR.out] at hr2
  generalize cutOf s n = L at *
  have hL := rdv_slice hr2
  obtain ⟨la, lcap, rfl, hL1, hL2, hL3⟩ := hL
  unfold maxLen at hL2
  go_wp2_with fail
  refine (hunk_check_any L _ _ hr2).mono ?_
  rintro e w3 ⟨rfl, hc3⟩
  have hw := hw.trans hc3
  have hr2 := hr2.never hc3
  have hL3 := hL3.keep (O'' := Never) hc3 (fun _ _ h => h) (fun _ _ h => h)
  clear hc3
  rw [HK.out, errV_zero]
  go_wp2_with fail
  go_loop [13, 14] (fun many i => ∃ k : Nat, k ≤ L.length ∧ i = .int .i64 k ∧ many = .int .i64 (manyChanges (L.take k))) (fun _ i => L.length - (intOf i).toNat)
  case atStart => exact ⟨0, Nat.zero_le _, rfl, rfl⟩
  case round =>
    obtain ⟨k, hk, rfl, rfl⟩ := hrel
    by_cases hlt : k < L.length
    · obtain ⟨x, hx⟩ : ∃ x, L[k]? = some x := ⟨L[k], by simp [hlt]⟩
      obtain ⟨b, off, mv, rfl, _, _, c0, c1, c2, hmv⟩ := elems_hunk hL3 hx
      have HT := Lib.hid (manyChanges_take hx)
      have hb0 : manyChanges (L.take k) + changes x.marks ≤ 120 := by rw [← HT.out]; exact Nat.le_trans (manyChanges_le L (k + 1)) (by rw [HM.out]; exact hcl)
      have b1 : (k : Int) < L.length := by omega
      clear hx hL3
      go_wp2_with fail
      refine (changes_any x.marks _ _ hmv).mono ?_
      rintro e w4 ⟨rfl, rfl⟩
      go_wp2_with fail
      go_round
      case rel => exact ⟨k + 1, by omega, by go_num, by rw [HT.out]; go_num⟩
      case measure => simp [intOf] <;> omega
    · obtain rfl : k = L.length := by omega
      rw [List.take_length, HM.out]
      clear hL3
      go_wp2_with fail
      refine (turn_any L _ _ hr2).mono ?_
      rintro e w4 ⟨r4, rfl, hc4, hr4⟩
      have hw := hw.trans hc4
      have hr2 := hr2.never hc4
      have hr4 := hr4.sub (O' := Never) (fun _ _ h => h.elim)
      clear hc4
      rw [HK.out, errV_zero]
      rw [turnR, if_pos (by rw [HK.out])] at hr4
      go_wp2_with fail
      refine (turn_any (turnHunks L) _ _ hr4).mono ?_
      rintro e w5 ⟨r5, rfl, hc5, hr5⟩
      have hw := hw.trans hc5
      have hr2 := hr2.never hc5
      have hr5 := hr5.sub (O' := Never) (fun _ _ h => h.elim)
      clear hc5 hr4
      rw [turn_ok HK.out, errV_zero]
      rw [turnR, if_pos (by rw [turn_ok HK.out]), turn_turn] at hr5
      go_wp2_with fail
      refine (hunks_eq_any L L _ _ _ hr5 hr2).mono ?_
      rintro e w6 ⟨rfl, hc6⟩
      have hw := hw.trans hc6
      clear hc6 hr5
      rw [decide_eq_true rfl]
      go_wp2_with fail
      refine (changes_any s _ _ (hs.never hw)).mono ?_
      rintro e w6' ⟨rfl, rfl⟩
      go_wp2_with fail
      refine (Cut_any s 200 _ _ (hs.never hw) (by unfold I64; omega)).mono ?_
      rintro e w7 ⟨r7, rfl, hc7, hr7⟩
      have hw := hw.trans hc7
      clear hc7
      have hr7 := hr7.sub (O' := Never) (fun _ _ h => h.elim)
      rw [HF2.out, errV_zero]
      rw [cutR, if_pos HF2.out, HC.out] at hr7
      by_cases h0 : changes s = 0
      · rw [if_pos h0] at hr7
        rw [h0]
        obtain ⟨ra, rcap, rfl, _, _, _⟩ := rdv_slice hr7
        have H0 := Lib.hid h0
        clear h0 hr7
        by_cases hf : cutFault s m = 0
        · have HF := Lib.hid hf
          have HR : Hid (cutR s m = cutOf s m) := if_pos hf
          clear hf
          by_cases hnm : m < n
          · go_wp2_with fail
            refine (Cut_any s m _ _ (hs.never hw) hm).mono ?_
            rintro e w9 ⟨r9, rfl, hc9, hr9⟩
            have hw := hw.trans hc9
            clear hc9
            obtain ⟨ka, kcap, rfl, _, _, _⟩ := rdv_slice hr9
            rw [HF.out, errV_zero]
            go_wp2_with fail
            go_ret
            exact ⟨rfl, hw⟩
          · have hmo := HMONO (by omega)
            go_wp2_with fail
            refine (Cut_any s m _ _ (hs.never hw) hm).mono ?_
            rintro e w9 ⟨r9, rfl, hc9, hr9⟩
            have hw := hw.trans hc9
            clear hc9
            obtain ⟨ka, kcap, rfl, _, _, _⟩ := rdv_slice hr9
            rw [HF.out, errV_zero, HR.out]
            go_wp2_with fail
            go_ret
            exact ⟨rfl, hw⟩
        · have HF := Lib.hid hf
          clear hf
          go_wp2_with fail
          refine (Cut_any s m _ _ (hs.never hw) hm).mono ?_
          rintro e w9 ⟨r9, rfl, hc9, hr9⟩
          have hw := hw.trans hc9
          clear hc9
          obtain ⟨ka, kcap, rfl, _, _, _⟩ := rdv_slice hr9
          rw [errV_pos HF.out]
          go_wp2_with fail
          go_ret
          exact ⟨rfl, hw⟩
      · rw [if_neg h0] at hr7
        obtain ⟨ra, rcap, rfl, _, _, hel⟩ := rdv_slice hr7
        obtain ⟨fb, fo, fm, rfl, _, _, f0, f1, f2, hfm⟩ := elems_hunk hel (i := 0) rfl
        simp only [Nat.zero_mul, Nat.add_zero] at f0 f1 f2 hfm
        obtain ⟨ma, mcap, rfl, _, _, _⟩ := rdv_slice hfm
        have hpos : 0 < changes s := by omega
        have hp1 : decide (0 < changes s) = true := decide_eq_true hpos
        have hp2 : decide ((0 : Int) < (changes s : Int)) = true := decide_eq_true (by omega)
        clear h0 hr7 hel
        go_wp2_with fail
        refine (marks_any s s _ _ _ hfm (hs.never hw)).mono ?_
        rintro e w8 ⟨rfl, hc8⟩
        have hw := hw.trans hc8
        have f0 := hc8.cellNever f0
        have f1 := hc8.cellNever f1
        clear hc8 hfm
        rw [decide_eq_true rfl]
        by_cases hf : cutFault s m = 0
        · have HF := Lib.hid hf
          have HR : Hid (cutR s m = cutOf s m) := if_pos hf
          clear hf
          by_cases hnm : m < n
          · go_wp2_with fail
            refine (Cut_any s m _ _ (hs.never hw) hm).mono ?_
            rintro e w9 ⟨r9, rfl, hc9, hr9⟩
            have hw := hw.trans hc9
            clear hc9
            obtain ⟨ka, kcap, rfl, _, _, _⟩ := rdv_slice hr9
            rw [HF.out, errV_zero]
            go_wp2_with fail
            go_ret
            exact ⟨rfl, hw⟩
          · have hmo := HMONO (by omega)
            go_wp2_with fail
            refine (Cut_any s m _ _ (hs.never hw) hm).mono ?_
            rintro e w9 ⟨r9, rfl, hc9, hr9⟩
            have hw := hw.trans hc9
            clear hc9
            obtain ⟨ka, kcap, rfl, _, _, _⟩ := rdv_slice hr9
            rw [HF.out, errV_zero, HR.out]
            go_wp2_with fail
            go_ret
            exact ⟨rfl, hw⟩
        · have HF := Lib.hid hf
          clear hf
          go_wp2_with fail
          refine (Cut_any s m _ _ (hs.never hw) hm).mono ?_
          rintro e w9 ⟨r9, rfl, hc9, hr9⟩
          have hw := hw.trans hc9
          clear hc9
          obtain ⟨ka, kcap, rfl, _, _, _⟩ := rdv_slice hr9
          rw [errV_pos HF.out]
          go_wp2_with fail
          go_ret
          exact ⟨rfl, hw⟩

theorem law_covers (s : List Mark) (n m : Int) (v : Value) (w : World) (hs : Rdv w Never v s) (hn : I64 n) (hm : I64 m) :
    Calls Try.prog 3 #[v, .int .i64 n, .int .i64 m] w fun e w' => e = .returned (.bool true) ∧ Chg Never w w' := by
  by_cases h : cutFault s n = 0
  · exact covers_ok s n m v w hs hn hm h
  · exact covers_bad s n m v w hs hn hm h
end Go.Proofs.Ytlflhehlbnbhgaa
