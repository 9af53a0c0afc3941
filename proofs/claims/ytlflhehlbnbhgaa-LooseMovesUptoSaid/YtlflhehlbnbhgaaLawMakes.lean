/-
  THE LAW ApplyMakes, walked.
-/
import Derived.Test.YtlflhehlbnbhgaaStrict
namespace Go.Proofs.Ytlflhehlbnbhgaa
open Go.RowKit

abbrev sX : ByteArray := ⟨#[120]⟩
theorem strict_x : strict [] [⟨0, 0, [⟨43, sX⟩]⟩] = ([sX], 0, 0) := by decide +kernel
theorem heap_pair (w : World) (x y : Obj) : ((w.alloc x).alloc y).heap[w.heap.size]? = some x ∧ ((w.alloc x).alloc y).heap[w.heap.size + 1]? = some y := by
  constructor
  · rw [Below.heap_alloc _ _ _ (by simp)]
    exact heap_alloc_new _ _
  · have := heap_alloc_new (w.alloc x) y
    rwa [World.size_alloc] at this

theorem makeFault_zero {a b : List ByteArray} {n : Int} (h : makeFault a b n = 0) : checkedFault a b = 0 ∧ 0 ≤ n ∧ n ≤ 1000 := by
  unfold makeFault at h
  by_cases h1 : checkedFault a b ≠ 0
  · rw [if_pos h1] at h; exact absurd h h1
  · rw [if_neg h1] at h
    obtain ⟨_, h2, h3, _⟩ := cutFault_zero h
    exact ⟨by simpa using h1, h2, h3⟩


set_option maxHeartbeats 2000000 in
set_option maxRecDepth 100000 in
theorem makes_ok_ok (a b : List ByteArray) (n : Int) (l : List Hunk) (va vb vl : Value) (w : World) (ha : Rdv w Never va a) (hb : Rdv w Never vb b) (hn : I64 n) (hl : Rdv w Never vl l)
    (HZ : Hid (makeFault a b n = 0)) (y : List ByteArray) (k : Nat) (HB : Hid (strict a l = (y, k, 0))) :
    Calls Try.prog 5 #[va, vb, .int .i64 n, vl] w fun e w' => e = .returned (.bool true) ∧ Chg Never w w' := by
  obtain ⟨q0, q1, q2⟩ := makeFault_zero HZ.out
  obtain ⟨p1, p2, p3, p4⟩ := strict_cut q0 q1 q2
  have HQ := Lib.hid q0
  have HCF := Lib.hid p1
  have HS1 := Lib.hid p2
  have HK := Lib.hid p3
  have HS2 := Lib.hid p4
  clear q0 p1 p2 p3 p4
  have HKL := Lib.hid (strict_zero HB.out).2.1
  have HU := Lib.hid (strict_undo HB.out).1
  go_enter Try.func5, Try.ntmps5
  go_wp2_with fail
  refine (strict_any [] [⟨0, 0, [⟨43, sX⟩]⟩] _ _ _ (rdv_nil _ _) (rdv_lit (e := 31) (cs := [.int .i64 0, .int .i64 0, .slice (some ⟨w.heap.size, 0, none⟩) 1 1]) (heap_pair _ _ _).2 rfl (by decide)
    ⟨⟨_, rfl, rdv_lit (e := 29) (cs := [.int .u8 43, .string sX]) (heap_pair _ _ _).1 rfl (by decide) ⟨rd_mark _ _ 43 sX (by decide) (by decide) (by decide), trivial⟩⟩, trivial⟩)).mono ?_
  rintro e w1 ⟨r1, rfl, hc1, hr1⟩
  have hw1 : Chg Never w w1 := (((Chg.refl Never w).alloc _).alloc _).trans hc1
  clear hc1
  rw [strict_x] at hr1 ⊢
  simp only [errV_zero]
  have hr1 := hr1.sub (O' := Never) (fun _ _ h => h.elim)
  go_wp2_with fail
  refine (texts_any [sX] [sX] _ _ _ (hr1.never ((Chg.refl _ _).alloc _)) (rdv_lit (e := 9) (cs := [.string sX]) (heap_alloc_new _ _) rfl (by decide) ⟨⟨rfl, by decide⟩, trivial⟩)).mono ?_
  rintro e w2 ⟨rfl, hc2⟩
  have hw : Chg Never w w2 := (hw1.alloc _).trans hc2
  clear hc2 hw1 hr1
  rw [decide_eq_true rfl]
  go_wp2_with fail
  refine (make_any a b n _ _ _ (ha.never hw) (hb.never hw) hn).mono ?_
  rintro e w3 ⟨r3, rfl, hc3, hr3⟩
  have hw := hw.trans hc3
  have hr3 := hr3.sub (O' := Never) (fun _ _ h => h.elim)
  clear hc3
  rw [HZ.out, errV_zero]
  rw [makeR, if_pos HQ.out, cutR, if_pos HCF.out] at hr3
  go_wp2_with fail
  refine (strict_any a (cutOf (script a b) n) _ _ _ (ha.never hw) hr3).mono ?_
  rintro e w4 ⟨r4, rfl, hc4, hr4⟩
  have hw := hw.trans hc4
  have hr3 := hr3.never hc4
  have hr4 := hr4.sub (O' := Never) (fun _ _ h => h.elim)
  clear hc4
  rw [HS1.out] at hr4 ⊢
  simp only [errV_zero]
  go_wp2_with fail
  refine (turn_any (cutOf (script a b) n) _ _ hr3).mono ?_
  rintro e w5 ⟨r5, rfl, hc5, hr5⟩
  have hw := hw.trans hc5
  have hr4 := hr4.never hc5
  have hr5 := hr5.sub (O' := Never) (fun _ _ h => h.elim)
  clear hc5 hr3
  rw [HK.out, errV_zero]
  rw [turnR, if_pos (by rw [HK.out])] at hr5
  go_wp2_with fail
  refine (strict_any b (turnHunks (cutOf (script a b) n)) _ _ _ (hb.never hw) hr5).mono ?_
  rintro e w6 ⟨r6, rfl, hc6, hr6⟩
  have hw := hw.trans hc6
  have hr4 := hr4.never hc6
  have hr6 := hr6.sub (O' := Never) (fun _ _ h => h.elim)
  clear hc6 hr5
  rw [HS2.out] at hr6 ⊢
  simp only [errV_zero]
  go_wp2_with fail
  refine (texts_any b b _ _ _ hr4 (hb.never hw)).mono ?_
  rintro e w7 ⟨rfl, hc7⟩
  have hw := hw.trans hc7
  have hr6 := hr6.never hc7
  clear hc7 hr4
  rw [decide_eq_true rfl]
  go_wp2_with fail
  refine (texts_any a a _ _ _ hr6 (ha.never hw)).mono ?_
  rintro e w8 ⟨rfl, hc8⟩
  have hw := hw.trans hc8
  clear hc8 hr6
  rw [decide_eq_true rfl]
  go_wp2_with fail
  refine (strict_any a l _ _ _ (ha.never hw) (hl.never hw)).mono ?_
  rintro e w9 ⟨r9, rfl, hc9, hr9⟩
  have hw := hw.trans hc9
  have hr9 := hr9.sub (O' := Never) (fun _ _ h => h.elim)
  clear hc9
  rw [HB.out] at hr9 ⊢
  simp only [errV_zero]
  go_wp2_with fail
  refine (turn_any l _ _ (hl.never hw)).mono ?_
  rintro e w10 ⟨r10, rfl, hc10, hr10⟩
  have hw := hw.trans hc10
  have hr9 := hr9.never hc10
  have hr10 := hr10.sub (O' := Never) (fun _ _ h => h.elim)
  clear hc10
  rw [HKL.out, errV_zero]
  rw [turnR, if_pos (by rw [HKL.out])] at hr10
  go_wp2_with fail
  refine (strict_any y (turnHunks l) _ _ _ hr9 hr10).mono ?_
  rintro e w11 ⟨r11, rfl, hc11, hr11⟩
  have hw := hw.trans hc11
  have hr11 := hr11.sub (O' := Never) (fun _ _ h => h.elim)
  clear hc11 hr9 hr10
  rw [HU.out] at hr11 ⊢
  simp only [errV_zero]
  go_wp2_with fail
  refine (texts_any a a _ _ _ hr11 (ha.never hw)).mono ?_
  rintro e w12 ⟨rfl, hc12⟩
  have hw := hw.trans hc12
  clear hc12 hr11
  rw [decide_eq_true rfl]
  go_wp2_with fail
  go_ret
  exact ⟨rfl, hw⟩

set_option maxHeartbeats 2000000 in
set_option maxRecDepth 100000 in
theorem makes_ok_bad (a b : List ByteArray) (n : Int) (l : List Hunk) (va vb vl : Value) (w : World) (ha : Rdv w Never va a) (hb : Rdv w Never vb b) (hn : I64 n) (hl : Rdv w Never vl l)
    (HZ : Hid (makeFault a b n = 0)) (HB : Hid ((strict a l).2.2 ≠ 0)) :
    Calls Try.prog 5 #[va, vb, .int .i64 n, vl] w fun e w' => e = .returned (.bool true) ∧ Chg Never w w' := by
  obtain ⟨q0, q1, q2⟩ := makeFault_zero HZ.out
  obtain ⟨p1, p2, p3, p4⟩ := strict_cut q0 q1 q2
  have HQ := Lib.hid q0
  have HCF := Lib.hid p1
  have HS1 := Lib.hid p2
  have HK := Lib.hid p3
  have HS2 := Lib.hid p4
  clear q0 p1 p2 p3 p4
  go_enter Try.func5, Try.ntmps5
  go_wp2_with fail
  refine (strict_any [] [⟨0, 0, [⟨43, sX⟩]⟩] _ _ _ (rdv_nil _ _) (rdv_lit (e := 31) (cs := [.int .i64 0, .int .i64 0, .slice (some ⟨w.heap.size, 0, none⟩) 1 1]) (heap_pair _ _ _).2 rfl (by decide)
    ⟨⟨_, rfl, rdv_lit (e := 29) (cs := [.int .u8 43, .string sX]) (heap_pair _ _ _).1 rfl (by decide) ⟨rd_mark _ _ 43 sX (by decide) (by decide) (by decide), trivial⟩⟩, trivial⟩)).mono ?_
  rintro e w1 ⟨r1, rfl, hc1, hr1⟩
  have hw1 : Chg Never w w1 := (((Chg.refl Never w).alloc _).alloc _).trans hc1
  clear hc1
  rw [strict_x] at hr1 ⊢
  simp only [errV_zero]
  have hr1 := hr1.sub (O' := Never) (fun _ _ h => h.elim)
  go_wp2_with fail
  refine (texts_any [sX] [sX] _ _ _ (hr1.never ((Chg.refl _ _).alloc _)) (rdv_lit (e := 9) (cs := [.string sX]) (heap_alloc_new _ _) rfl (by decide) ⟨⟨rfl, by decide⟩, trivial⟩)).mono ?_
  rintro e w2 ⟨rfl, hc2⟩
  have hw : Chg Never w w2 := (hw1.alloc _).trans hc2
  clear hc2 hw1 hr1
  rw [decide_eq_true rfl]
  go_wp2_with fail
  refine (make_any a b n _ _ _ (ha.never hw) (hb.never hw) hn).mono ?_
  rintro e w3 ⟨r3, rfl, hc3, hr3⟩
  have hw := hw.trans hc3
  have hr3 := hr3.sub (O' := Never) (fun _ _ h => h.elim)
  clear hc3
  rw [HZ.out, errV_zero]
  rw [makeR, if_pos HQ.out, cutR, if_pos HCF.out] at hr3
  go_wp2_with fail
  refine (strict_any a (cutOf (script a b) n) _ _ _ (ha.never hw) hr3).mono ?_
  rintro e w4 ⟨r4, rfl, hc4, hr4⟩
  have hw := hw.trans hc4
  have hr3 := hr3.never hc4
  have hr4 := hr4.sub (O' := Never) (fun _ _ h => h.elim)
  clear hc4
  rw [HS1.out] at hr4 ⊢
  simp only [errV_zero]
  go_wp2_with fail
  refine (turn_any (cutOf (script a b) n) _ _ hr3).mono ?_
  rintro e w5 ⟨r5, rfl, hc5, hr5⟩
  have hw := hw.trans hc5
  have hr4 := hr4.never hc5
  have hr5 := hr5.sub (O' := Never) (fun _ _ h => h.elim)
  clear hc5 hr3
  rw [HK.out, errV_zero]
  rw [turnR, if_pos (by rw [HK.out])] at hr5
  go_wp2_with fail
  refine (strict_any b (turnHunks (cutOf (script a b) n)) _ _ _ (hb.never hw) hr5).mono ?_
  rintro e w6 ⟨r6, rfl, hc6, hr6⟩
  have hw := hw.trans hc6
  have hr4 := hr4.never hc6
  have hr6 := hr6.sub (O' := Never) (fun _ _ h => h.elim)
  clear hc6 hr5
  rw [HS2.out] at hr6 ⊢
  simp only [errV_zero]
  go_wp2_with fail
  refine (texts_any b b _ _ _ hr4 (hb.never hw)).mono ?_
  rintro e w7 ⟨rfl, hc7⟩
  have hw := hw.trans hc7
  have hr6 := hr6.never hc7
  clear hc7 hr4
  rw [decide_eq_true rfl]
  go_wp2_with fail
  refine (texts_any a a _ _ _ hr6 (ha.never hw)).mono ?_
  rintro e w8 ⟨rfl, hc8⟩
  have hw := hw.trans hc8
  clear hc8 hr6
  rw [decide_eq_true rfl]
  go_wp2_with fail
  refine (strict_any a l _ _ _ (ha.never hw) (hl.never hw)).mono ?_
  rintro e w9 ⟨r9, rfl, hc9, hr9⟩
  have hw := hw.trans hc9
  have hr9 := hr9.sub (O' := Never) (fun _ _ h => h.elim)
  clear hc9
  rw [errV_pos HB.out]
  go_wp2_with fail
  go_ret
  exact ⟨rfl, hw⟩

set_option maxHeartbeats 2000000 in
set_option maxRecDepth 100000 in
theorem makes_bad_ok (a b : List ByteArray) (n : Int) (l : List Hunk) (va vb vl : Value) (w : World) (ha : Rdv w Never va a) (hb : Rdv w Never vb b) (hn : I64 n) (hl : Rdv w Never vl l)
    (HZ : Hid (makeFault a b n ≠ 0)) (y : List ByteArray) (k : Nat) (HB : Hid (strict a l = (y, k, 0))) :
    Calls Try.prog 5 #[va, vb, .int .i64 n, vl] w fun e w' => e = .returned (.bool true) ∧ Chg Never w w' := by
  have HKL := Lib.hid (strict_zero HB.out).2.1
  have HU := Lib.hid (strict_undo HB.out).1
  go_enter Try.func5, Try.ntmps5
  go_wp2_with fail
  refine (strict_any [] [⟨0, 0, [⟨43, sX⟩]⟩] _ _ _ (rdv_nil _ _) (rdv_lit (e := 31) (cs := [.int .i64 0, .int .i64 0, .slice (some ⟨w.heap.size, 0, none⟩) 1 1]) (heap_pair _ _ _).2 rfl (by decide)
    ⟨⟨_, rfl, rdv_lit (e := 29) (cs := [.int .u8 43, .string sX]) (heap_pair _ _ _).1 rfl (by decide) ⟨rd_mark _ _ 43 sX (by decide) (by decide) (by decide), trivial⟩⟩, trivial⟩)).mono ?_
  rintro e w1 ⟨r1, rfl, hc1, hr1⟩
  have hw1 : Chg Never w w1 := (((Chg.refl Never w).alloc _).alloc _).trans hc1
  clear hc1
  rw [strict_x] at hr1 ⊢
  simp only [errV_zero]
  have hr1 := hr1.sub (O' := Never) (fun _ _ h => h.elim)
  go_wp2_with fail
  refine (texts_any [sX] [sX] _ _ _ (hr1.never ((Chg.refl _ _).alloc _)) (rdv_lit (e := 9) (cs := [.string sX]) (heap_alloc_new _ _) rfl (by decide) ⟨⟨rfl, by decide⟩, trivial⟩)).mono ?_
  rintro e w2 ⟨rfl, hc2⟩
  have hw : Chg Never w w2 := (hw1.alloc _).trans hc2
  clear hc2 hw1 hr1
  rw [decide_eq_true rfl]
  go_wp2_with fail
  refine (make_any a b n _ _ _ (ha.never hw) (hb.never hw) hn).mono ?_
  rintro e w3 ⟨r3, rfl, hc3, hr3⟩
  have hw := hw.trans hc3
  have hr3 := hr3.sub (O' := Never) (fun _ _ h => h.elim)
  clear hc3
  rw [errV_pos HZ.out]
  go_wp2_with fail
  refine (strict_any a l _ _ _ (ha.never hw) (hl.never hw)).mono ?_
  rintro e w9 ⟨r9, rfl, hc9, hr9⟩
  have hw := hw.trans hc9
  have hr9 := hr9.sub (O' := Never) (fun _ _ h => h.elim)
  clear hc9
  rw [HB.out] at hr9 ⊢
  simp only [errV_zero]
  go_wp2_with fail
  refine (turn_any l _ _ (hl.never hw)).mono ?_
  rintro e w10 ⟨r10, rfl, hc10, hr10⟩
  have hw := hw.trans hc10
  have hr9 := hr9.never hc10
  have hr10 := hr10.sub (O' := Never) (fun _ _ h => h.elim)
  clear hc10
  rw [HKL.out, errV_zero]
  rw [turnR, if_pos (by rw [HKL.out])] at hr10
  go_wp2_with fail
  refine (strict_any y (turnHunks l) _ _ _ hr9 hr10).mono ?_
  rintro e w11 ⟨r11, rfl, hc11, hr11⟩
  have hw := hw.trans hc11
  have hr11 := hr11.sub (O' := Never) (fun _ _ h => h.elim)
  clear hc11 hr9 hr10
  rw [HU.out] at hr11 ⊢
  simp only [errV_zero]
  go_wp2_with fail
  refine (texts_any a a _ _ _ hr11 (ha.never hw)).mono ?_
  rintro e w12 ⟨rfl, hc12⟩
  have hw := hw.trans hc12
  clear hc12 hr11
  rw [decide_eq_true rfl]
  go_wp2_with fail
  go_ret
  exact ⟨rfl, hw⟩

set_option maxHeartbeats 2000000 in
set_option maxRecDepth 100000 in
theorem makes_bad_bad (a b : List ByteArray) (n : Int) (l : List Hunk) (va vb vl : Value) (w : World) (ha : Rdv w Never va a) (hb : Rdv w Never vb b) (hn : I64 n) (hl : Rdv w Never vl l)
    (HZ : Hid (makeFault a b n ≠ 0)) (HB : Hid ((strict a l).2.2 ≠ 0)) :
    Calls Try.prog 5 #[va, vb, .int .i64 n, vl] w fun e w' => e = .returned (.bool true) ∧ Chg Never w w' := by
  go_enter Try.func5, Try.ntmps5
  go_wp2_with fail
  refine (strict_any [] [⟨0, 0, [⟨43, sX⟩]⟩] _ _ _ (rdv_nil _ _) (rdv_lit (e := 31) (cs := [.int .i64 0, .int .i64 0, .slice (some ⟨w.heap.size, 0, none⟩) 1 1]) (heap_pair _ _ _).2 rfl (by decide)
    ⟨⟨_, rfl, rdv_lit (e := 29) (cs := [.int .u8 43, .string sX]) (heap_pair _ _ _).1 rfl (by decide) ⟨rd_mark _ _ 43 sX (by decide) (by decide) (by decide), trivial⟩⟩, trivial⟩)).mono ?_
  rintro e w1 ⟨r1, rfl, hc1, hr1⟩
  have hw1 : Chg Never w w1 := (((Chg.refl Never w).alloc _).alloc _).trans hc1
  clear hc1
  rw [strict_x] at hr1 ⊢
  simp only [errV_zero]
  have hr1 := hr1.sub (O' := Never) (fun _ _ h => h.elim)
  go_wp2_with fail
  refine (texts_any [sX] [sX] _ _ _ (hr1.never ((Chg.refl _ _).alloc _)) (rdv_lit (e := 9) (cs := [.string sX]) (heap_alloc_new _ _) rfl (by decide) ⟨⟨rfl, by decide⟩, trivial⟩)).mono ?_
  rintro e w2 ⟨rfl, hc2⟩
  have hw : Chg Never w w2 := (hw1.alloc _).trans hc2
  clear hc2 hw1 hr1
  rw [decide_eq_true rfl]
  go_wp2_with fail
  refine (make_any a b n _ _ _ (ha.never hw) (hb.never hw) hn).mono ?_
  rintro e w3 ⟨r3, rfl, hc3, hr3⟩
  have hw := hw.trans hc3
  have hr3 := hr3.sub (O' := Never) (fun _ _ h => h.elim)
  clear hc3
  rw [errV_pos HZ.out]
  go_wp2_with fail
  refine (strict_any a l _ _ _ (ha.never hw) (hl.never hw)).mono ?_
  rintro e w9 ⟨r9, rfl, hc9, hr9⟩
  have hw := hw.trans hc9
  have hr9 := hr9.sub (O' := Never) (fun _ _ h => h.elim)
  clear hc9
  rw [errV_pos HB.out]
  go_wp2_with fail
  go_ret
  exact ⟨rfl, hw⟩

theorem law_makes (a b : List ByteArray) (n : Int) (l : List Hunk) (va vb vl : Value) (w : World) (ha : Rdv w Never va a) (hb : Rdv w Never vb b) (hn : I64 n) (hl : Rdv w Never vl l) :
    Calls Try.prog 5 #[va, vb, .int .i64 n, vl] w fun e w' => e = .returned (.bool true) ∧ Chg Never w w' := by
  by_cases h1 : makeFault a b n = 0 <;> by_cases h2 : (strict a l).2.2 = 0
  · exact makes_ok_ok a b n l va vb vl w ha hb hn hl h1 (strict a l).1 (strict a l).2.1 (by rw [Hid, ← h2])
  · exact makes_ok_bad a b n l va vb vl w ha hb hn hl h1 h2
  · exact makes_bad_ok a b n l va vb vl w ha hb hn hl h1 (strict a l).1 (strict a l).2.1 (by rw [Hid, ← h2])
  · exact makes_bad_bad a b n l va vb vl w ha hb hn hl h1 h2
end Go.Proofs.Ytlflhehlbnbhgaa
