/-
  THE LAW EditLeads, walked.
-/
import Derived.Test.YteaclccoicplgaaScript
import Derived.Test.YteaclccoicplgaaLawFar
namespace Go.Proofs.Yteaclccoicplgaa
open Go.RowKit

abbrev cX : ByteArray := ⟨#[120]⟩
abbrev cY : ByteArray := ⟨#[121]⟩
abbrev cZ : ByteArray := ⟨#[122]⟩
theorem scriptR_xyz : scriptR [cX, cY] [cY, cZ] = [⟨45, cX⟩, ⟨32, cY⟩, ⟨43, cZ⟩] := by
  have h : checkedFault [cX, cY] [cY, cZ] = 0 := by decide
  have e1 : far [cY] [cY, cZ] + 1 = far [cX, cY] [cY, cZ] := by
    simp [far_cons, far_nil, far_nil', cX, cY, cZ]
  have hxy : cX ≠ cY := by decide
  unfold scriptR
  rw [if_pos h, script, if_neg hxy, if_pos e1, script, if_pos rfl, script, script]
theorem fault_xyz : checkedFault [cX, cY] [cY, cZ] = 0 := by decide

theorem thoseR_ok {l : List Mark} {no : Int} (h : scriptFault l = 0) : thoseR l no = those l no := if_pos h
theorem signsOk_of {l : List Mark} (h : scriptFault l = 0) : signsOk l := by
  rw [scriptFault_zero] at h
  intro m hm
  have := h.2 m hm
  unfold markFault at this
  by_cases h1 : m.sign ≠ 32 ∧ m.sign ≠ 45 ∧ m.sign ≠ 43
  · simp [h1] at this
  · omega
theorem far_changes {s : List Mark} (h : scriptFault s = 0) : far (thoseR s 43) (thoseR s 45) ≤ changes s := by
  rw [thoseR_ok h, thoseR_ok h]
  exact far_le_changes s (signsOk_of h)



set_option maxHeartbeats 1000000 in
set_option maxRecDepth 100000 in
theorem leads_ok_bad (a b : List ByteArray) (s : List Mark) (va vb vs : Value) (w : World) (ha : Rdv w Never va a) (hb : Rdv w Never vb b) (hs : Rdv w Never vs s)
    (HZ : Hid (checkedFault a b = 0)) (HS : Hid (scriptFault s ≠ 0)) :
    Calls Try.prog 5 #[va, vb, vs] w fun e w' => e = .returned (.bool true) ∧ Chg Never w w' := by
  have F1 := Lib.hid (farV_ok HZ.out)
  have SV := Lib.hid (script_valid HZ.out)
  go_enter Try.func5, Try.ntmps5
  go_wp2_with fail
  refine (script_any [cX, cY] [cY, cZ] _ _ _ (rdv_lit (e := 9) (cs := [.string cX, .string cY]) (heap_two _ _ _).1 rfl (by decide) ⟨⟨rfl, by decide⟩, ⟨rfl, by decide⟩, trivial⟩) (rdv_lit (e := 9) (cs := [.string cY, .string cZ]) (heap_two _ _ _).2 rfl (by decide) ⟨⟨rfl, by decide⟩, ⟨rfl, by decide⟩, trivial⟩)).mono ?_
  rintro e w1 ⟨r1, rfl, hc1, hr1⟩
  have hw1 : Chg Never w w1 := (((Chg.refl Never w).alloc _).alloc _).trans hc1
  clear hc1
  rw [fault_xyz, errV_zero]
  rw [scriptR_xyz] at hr1
  go_wp2_with fail
  refine (marks_any [⟨45, cX⟩, ⟨32, cY⟩, ⟨43, cZ⟩] [⟨45, cX⟩, ⟨32, cY⟩, ⟨43, cZ⟩] _ _ _ ((hr1.never ((Chg.refl _ _).alloc _)).sub (fun _ _ h => h.elim)) (rdv_lit (e := 37) (cs := [.int .u8 45, .string cX, .int .u8 32, .string cY, .int .u8 43, .string cZ]) (heap_alloc_new _ _) rfl (by decide) ⟨rd_mark _ _ 45 cX (by decide) (by decide) (by decide), rd_mark _ _ 32 cY (by decide) (by decide) (by decide), rd_mark _ _ 43 cZ (by decide) (by decide) (by decide), trivial⟩)).mono ?_
  rintro e w2 ⟨rfl, hc2⟩
  have hw : Chg Never w w2 := (hw1.alloc _).trans hc2
  clear hc2 hr1 hw1
  rw [decide_eq_true rfl]
  go_wp2_with fail
  refine (script_any a b _ _ _ (ha.never hw) (hb.never hw)).mono ?_
  rintro e w3 ⟨r3, rfl, hc3, hr3⟩
  have hw := hw.trans hc3
  clear hc3
  rw [HZ.out, errV_zero]
  rw [scriptR, if_pos HZ.out] at hr3
  have hr3 := hr3.sub (O' := Never) (fun _ _ h => h.elim)
  go_wp2_with fail
  refine (far_any a b _ _ _ (ha.never hw) (hb.never hw)).mono ?_
  rintro e w4 ⟨rfl, hc4⟩
  have hw := hw.trans hc4
  have hr3 := hr3.never hc4
  clear hc4
  rw [F1.out]
  go_wp2_with fail
  refine (old_any _ _ _ hr3).mono ?_
  rintro e w5 ⟨r5, rfl, hc5, hr5⟩
  have hw := hw.trans hc5
  have hr3 := hr3.never hc5
  clear hc5
  rw [SV.out, errV_zero]
  rw [thoseR_ok SV.out, show those (script a b) 43 = a from script_old a b] at hr5
  have hr5 := hr5.sub (O' := Never) (fun _ _ h => h.elim)
  go_wp2_with fail
  refine (new_any _ _ _ hr3).mono ?_
  rintro e w6 ⟨r6, rfl, hc6, hr6⟩
  have hw := hw.trans hc6
  have hr3 := hr3.never hc6
  have hr5 := hr5.never hc6
  clear hc6
  rw [SV.out, errV_zero]
  rw [thoseR_ok SV.out, show those (script a b) 45 = b from script_new a b] at hr6
  have hr6 := hr6.sub (O' := Never) (fun _ _ h => h.elim)
  go_wp2_with fail
  refine (texts_any a a _ _ _ hr5 (ha.never hw)).mono ?_
  rintro e w7 ⟨rfl, hc7⟩
  have hw := hw.trans hc7
  have hr3 := hr3.never hc7
  have hr6 := hr6.never hc7
  clear hc7 hr5
  rw [decide_eq_true rfl]
  go_wp2_with fail
  refine (texts_any b b _ _ _ hr6 (hb.never hw)).mono ?_
  rintro e w8 ⟨rfl, hc8⟩
  have hw := hw.trans hc8
  have hr3 := hr3.never hc8
  clear hc8 hr6
  rw [decide_eq_true rfl]
  go_wp2_with fail
  refine (changes_any _ _ _ hr3).mono ?_
  rintro e w9 ⟨rfl, rfl⟩
  rw [script_changes]
  clear hr3
  go_wp2_with fail
  refine (old_any s _ _ (hs.never hw)).mono ?_
  rintro e w10 ⟨r10, rfl, hc10, hr10⟩
  have hw := hw.trans hc10
  have hr10 := hr10.sub (O' := Never) (fun _ _ h => h.elim)
  clear hc10
  rw [errV_pos HS.out]
  go_wp2_with fail
  refine (new_any s _ _ (hs.never hw)).mono ?_
  rintro e w11 ⟨r11, rfl, hc11, hr11⟩
  have hw := hw.trans hc11
  have hr10 := hr10.never hc11
  have hr11 := hr11.sub (O' := Never) (fun _ _ h => h.elim)
  clear hc11
  rw [errV_pos HS.out]
  go_wp2_with fail
  go_ret
  exact ⟨rfl, hw⟩

set_option maxHeartbeats 1000000 in
set_option maxRecDepth 100000 in
theorem leads_bad_bad (a b : List ByteArray) (s : List Mark) (va vb vs : Value) (w : World) (ha : Rdv w Never va a) (hb : Rdv w Never vb b) (hs : Rdv w Never vs s)
    (HZ : Hid (checkedFault a b ≠ 0)) (HS : Hid (scriptFault s ≠ 0)) :
    Calls Try.prog 5 #[va, vb, vs] w fun e w' => e = .returned (.bool true) ∧ Chg Never w w' := by
  go_enter Try.func5, Try.ntmps5
  go_wp2_with fail
  refine (script_any [cX, cY] [cY, cZ] _ _ _ (rdv_lit (e := 9) (cs := [.string cX, .string cY]) (heap_two _ _ _).1 rfl (by decide) ⟨⟨rfl, by decide⟩, ⟨rfl, by decide⟩, trivial⟩) (rdv_lit (e := 9) (cs := [.string cY, .string cZ]) (heap_two _ _ _).2 rfl (by decide) ⟨⟨rfl, by decide⟩, ⟨rfl, by decide⟩, trivial⟩)).mono ?_
  rintro e w1 ⟨r1, rfl, hc1, hr1⟩
  have hw1 : Chg Never w w1 := (((Chg.refl Never w).alloc _).alloc _).trans hc1
  clear hc1
  rw [fault_xyz, errV_zero]
  rw [scriptR_xyz] at hr1
  go_wp2_with fail
  refine (marks_any [⟨45, cX⟩, ⟨32, cY⟩, ⟨43, cZ⟩] [⟨45, cX⟩, ⟨32, cY⟩, ⟨43, cZ⟩] _ _ _ ((hr1.never ((Chg.refl _ _).alloc _)).sub (fun _ _ h => h.elim)) (rdv_lit (e := 37) (cs := [.int .u8 45, .string cX, .int .u8 32, .string cY, .int .u8 43, .string cZ]) (heap_alloc_new _ _) rfl (by decide) ⟨rd_mark _ _ 45 cX (by decide) (by decide) (by decide), rd_mark _ _ 32 cY (by decide) (by decide) (by decide), rd_mark _ _ 43 cZ (by decide) (by decide) (by decide), trivial⟩)).mono ?_
  rintro e w2 ⟨rfl, hc2⟩
  have hw : Chg Never w w2 := (hw1.alloc _).trans hc2
  clear hc2 hr1 hw1
  rw [decide_eq_true rfl]
  go_wp2_with fail
  refine (script_any a b _ _ _ (ha.never hw) (hb.never hw)).mono ?_
  rintro e w3 ⟨r3, rfl, hc3, hr3⟩
  have hw := hw.trans hc3
  clear hc3 hr3
  rw [errV_pos HZ.out]
  go_wp2_with fail
  refine (old_any s _ _ (hs.never hw)).mono ?_
  rintro e w10 ⟨r10, rfl, hc10, hr10⟩
  have hw := hw.trans hc10
  have hr10 := hr10.sub (O' := Never) (fun _ _ h => h.elim)
  clear hc10
  rw [errV_pos HS.out]
  go_wp2_with fail
  refine (new_any s _ _ (hs.never hw)).mono ?_
  rintro e w11 ⟨r11, rfl, hc11, hr11⟩
  have hw := hw.trans hc11
  have hr10 := hr10.never hc11
  have hr11 := hr11.sub (O' := Never) (fun _ _ h => h.elim)
  clear hc11
  rw [errV_pos HS.out]
  go_wp2_with fail
  go_ret
  exact ⟨rfl, hw⟩

set_option maxHeartbeats 1000000 in
set_option maxRecDepth 100000 in
theorem leads_ok_ok1 (a b : List ByteArray) (s : List Mark) (va vb vs : Value) (w : World) (ha : Rdv w Never va a) (hb : Rdv w Never vb b) (hs : Rdv w Never vs s)
    (HZ : Hid (checkedFault a b = 0)) (HS : Hid (scriptFault s = 0)) (HF : Hid (checkedFault (thoseR s 43) (thoseR s 45) ≠ 0)) :
    Calls Try.prog 5 #[va, vb, vs] w fun e w' => e = .returned (.bool true) ∧ Chg Never w w' := by
  have F1 := Lib.hid (farV_ok HZ.out)
  have SV := Lib.hid (script_valid HZ.out)
  have F2 := Lib.hid (farV_bad HF.out)
  go_enter Try.func5, Try.ntmps5
  go_wp2_with fail
  refine (script_any [cX, cY] [cY, cZ] _ _ _ (rdv_lit (e := 9) (cs := [.string cX, .string cY]) (heap_two _ _ _).1 rfl (by decide) ⟨⟨rfl, by decide⟩, ⟨rfl, by decide⟩, trivial⟩) (rdv_lit (e := 9) (cs := [.string cY, .string cZ]) (heap_two _ _ _).2 rfl (by decide) ⟨⟨rfl, by decide⟩, ⟨rfl, by decide⟩, trivial⟩)).mono ?_
  rintro e w1 ⟨r1, rfl, hc1, hr1⟩
  have hw1 : Chg Never w w1 := (((Chg.refl Never w).alloc _).alloc _).trans hc1
  clear hc1
  rw [fault_xyz, errV_zero]
  rw [scriptR_xyz] at hr1
  go_wp2_with fail
  refine (marks_any [⟨45, cX⟩, ⟨32, cY⟩, ⟨43, cZ⟩] [⟨45, cX⟩, ⟨32, cY⟩, ⟨43, cZ⟩] _ _ _ ((hr1.never ((Chg.refl _ _).alloc _)).sub (fun _ _ h => h.elim)) (rdv_lit (e := 37) (cs := [.int .u8 45, .string cX, .int .u8 32, .string cY, .int .u8 43, .string cZ]) (heap_alloc_new _ _) rfl (by decide) ⟨rd_mark _ _ 45 cX (by decide) (by decide) (by decide), rd_mark _ _ 32 cY (by decide) (by decide) (by decide), rd_mark _ _ 43 cZ (by decide) (by decide) (by decide), trivial⟩)).mono ?_
  rintro e w2 ⟨rfl, hc2⟩
  have hw : Chg Never w w2 := (hw1.alloc _).trans hc2
  clear hc2 hr1 hw1
  rw [decide_eq_true rfl]
  go_wp2_with fail
  refine (script_any a b _ _ _ (ha.never hw) (hb.never hw)).mono ?_
  rintro e w3 ⟨r3, rfl, hc3, hr3⟩
  have hw := hw.trans hc3
  clear hc3
  rw [HZ.out, errV_zero]
  rw [scriptR, if_pos HZ.out] at hr3
  have hr3 := hr3.sub (O' := Never) (fun _ _ h => h.elim)
  go_wp2_with fail
  refine (far_any a b _ _ _ (ha.never hw) (hb.never hw)).mono ?_
  rintro e w4 ⟨rfl, hc4⟩
  have hw := hw.trans hc4
  have hr3 := hr3.never hc4
  clear hc4
  rw [F1.out]
  go_wp2_with fail
  refine (old_any _ _ _ hr3).mono ?_
  rintro e w5 ⟨r5, rfl, hc5, hr5⟩
  have hw := hw.trans hc5
  have hr3 := hr3.never hc5
  clear hc5
  rw [SV.out, errV_zero]
  rw [thoseR_ok SV.out, show those (script a b) 43 = a from script_old a b] at hr5
  have hr5 := hr5.sub (O' := Never) (fun _ _ h => h.elim)
  go_wp2_with fail
  refine (new_any _ _ _ hr3).mono ?_
  rintro e w6 ⟨r6, rfl, hc6, hr6⟩
  have hw := hw.trans hc6
  have hr3 := hr3.never hc6
  have hr5 := hr5.never hc6
  clear hc6
  rw [SV.out, errV_zero]
  rw [thoseR_ok SV.out, show those (script a b) 45 = b from script_new a b] at hr6
  have hr6 := hr6.sub (O' := Never) (fun _ _ h => h.elim)
  go_wp2_with fail
  refine (texts_any a a _ _ _ hr5 (ha.never hw)).mono ?_
  rintro e w7 ⟨rfl, hc7⟩
  have hw := hw.trans hc7
  have hr3 := hr3.never hc7
  have hr6 := hr6.never hc7
  clear hc7 hr5
  rw [decide_eq_true rfl]
  go_wp2_with fail
  refine (texts_any b b _ _ _ hr6 (hb.never hw)).mono ?_
  rintro e w8 ⟨rfl, hc8⟩
  have hw := hw.trans hc8
  have hr3 := hr3.never hc8
  clear hc8 hr6
  rw [decide_eq_true rfl]
  go_wp2_with fail
  refine (changes_any _ _ _ hr3).mono ?_
  rintro e w9 ⟨rfl, rfl⟩
  rw [script_changes]
  clear hr3
  go_wp2_with fail
  refine (old_any s _ _ (hs.never hw)).mono ?_
  rintro e w10 ⟨r10, rfl, hc10, hr10⟩
  have hw := hw.trans hc10
  have hr10 := hr10.sub (O' := Never) (fun _ _ h => h.elim)
  clear hc10
  rw [HS.out, errV_zero]
  go_wp2_with fail
  refine (new_any s _ _ (hs.never hw)).mono ?_
  rintro e w11 ⟨r11, rfl, hc11, hr11⟩
  have hw := hw.trans hc11
  have hr10 := hr10.never hc11
  have hr11 := hr11.sub (O' := Never) (fun _ _ h => h.elim)
  clear hc11
  rw [HS.out, errV_zero]
  go_wp2_with fail
  refine (far_any _ _ _ _ _ hr10 hr11).mono ?_
  rintro e w12 ⟨rfl, hc12⟩
  have hw := hw.trans hc12
  clear hc12 hr10 hr11
  rw [F2.out]
  go_wp2_with fail
  go_ret
  exact ⟨rfl, hw⟩

set_option maxHeartbeats 1000000 in
set_option maxRecDepth 100000 in
theorem leads_bad_ok1 (a b : List ByteArray) (s : List Mark) (va vb vs : Value) (w : World) (ha : Rdv w Never va a) (hb : Rdv w Never vb b) (hs : Rdv w Never vs s)
    (HZ : Hid (checkedFault a b ≠ 0)) (HS : Hid (scriptFault s = 0)) (HF : Hid (checkedFault (thoseR s 43) (thoseR s 45) ≠ 0)) :
    Calls Try.prog 5 #[va, vb, vs] w fun e w' => e = .returned (.bool true) ∧ Chg Never w w' := by
  have F2 := Lib.hid (farV_bad HF.out)
  go_enter Try.func5, Try.ntmps5
  go_wp2_with fail
  refine (script_any [cX, cY] [cY, cZ] _ _ _ (rdv_lit (e := 9) (cs := [.string cX, .string cY]) (heap_two _ _ _).1 rfl (by decide) ⟨⟨rfl, by decide⟩, ⟨rfl, by decide⟩, trivial⟩) (rdv_lit (e := 9) (cs := [.string cY, .string cZ]) (heap_two _ _ _).2 rfl (by decide) ⟨⟨rfl, by decide⟩, ⟨rfl, by decide⟩, trivial⟩)).mono ?_
  rintro e w1 ⟨r1, rfl, hc1, hr1⟩
  have hw1 : Chg Never w w1 := (((Chg.refl Never w).alloc _).alloc _).trans hc1
  clear hc1
  rw [fault_xyz, errV_zero]
  rw [scriptR_xyz] at hr1
  go_wp2_with fail
  refine (marks_any [⟨45, cX⟩, ⟨32, cY⟩, ⟨43, cZ⟩] [⟨45, cX⟩, ⟨32, cY⟩, ⟨43, cZ⟩] _ _ _ ((hr1.never ((Chg.refl _ _).alloc _)).sub (fun _ _ h => h.elim)) (rdv_lit (e := 37) (cs := [.int .u8 45, .string cX, .int .u8 32, .string cY, .int .u8 43, .string cZ]) (heap_alloc_new _ _) rfl (by decide) ⟨rd_mark _ _ 45 cX (by decide) (by decide) (by decide), rd_mark _ _ 32 cY (by decide) (by decide) (by decide), rd_mark _ _ 43 cZ (by decide) (by decide) (by decide), trivial⟩)).mono ?_
  rintro e w2 ⟨rfl, hc2⟩
  have hw : Chg Never w w2 := (hw1.alloc _).trans hc2
  clear hc2 hr1 hw1
  rw [decide_eq_true rfl]
  go_wp2_with fail
  refine (script_any a b _ _ _ (ha.never hw) (hb.never hw)).mono ?_
  rintro e w3 ⟨r3, rfl, hc3, hr3⟩
  have hw := hw.trans hc3
  clear hc3 hr3
  rw [errV_pos HZ.out]
  go_wp2_with fail
  refine (old_any s _ _ (hs.never hw)).mono ?_
  rintro e w10 ⟨r10, rfl, hc10, hr10⟩
  have hw := hw.trans hc10
  have hr10 := hr10.sub (O' := Never) (fun _ _ h => h.elim)
  clear hc10
  rw [HS.out, errV_zero]
  go_wp2_with fail
  refine (new_any s _ _ (hs.never hw)).mono ?_
  rintro e w11 ⟨r11, rfl, hc11, hr11⟩
  have hw := hw.trans hc11
  have hr10 := hr10.never hc11
  have hr11 := hr11.sub (O' := Never) (fun _ _ h => h.elim)
  clear hc11
  rw [HS.out, errV_zero]
  go_wp2_with fail
  refine (far_any _ _ _ _ _ hr10 hr11).mono ?_
  rintro e w12 ⟨rfl, hc12⟩
  have hw := hw.trans hc12
  clear hc12 hr10 hr11
  rw [F2.out]
  go_wp2_with fail
  go_ret
  exact ⟨rfl, hw⟩

set_option maxHeartbeats 1000000 in
set_option maxRecDepth 100000 in
theorem leads_ok_ok2 (a b : List ByteArray) (s : List Mark) (va vb vs : Value) (w : World) (ha : Rdv w Never va a) (hb : Rdv w Never vb b) (hs : Rdv w Never vs s)
    (HZ : Hid (checkedFault a b = 0)) (HS : Hid (scriptFault s = 0)) (HF : Hid (checkedFault (thoseR s 43) (thoseR s 45) = 0)) :
    Calls Try.prog 5 #[va, vb, vs] w fun e w' => e = .returned (.bool true) ∧ Chg Never w w' := by
  have F1 := Lib.hid (farV_ok HZ.out)
  have SV := Lib.hid (script_valid HZ.out)
  have F2 := Lib.hid (farV_ok HF.out)
  have hle := far_changes HS.out
  go_enter Try.func5, Try.ntmps5
  go_wp2_with fail
  refine (script_any [cX, cY] [cY, cZ] _ _ _ (rdv_lit (e := 9) (cs := [.string cX, .string cY]) (heap_two _ _ _).1 rfl (by decide) ⟨⟨rfl, by decide⟩, ⟨rfl, by decide⟩, trivial⟩) (rdv_lit (e := 9) (cs := [.string cY, .string cZ]) (heap_two _ _ _).2 rfl (by decide) ⟨⟨rfl, by decide⟩, ⟨rfl, by decide⟩, trivial⟩)).mono ?_
  rintro e w1 ⟨r1, rfl, hc1, hr1⟩
  have hw1 : Chg Never w w1 := (((Chg.refl Never w).alloc _).alloc _).trans hc1
  clear hc1
  rw [fault_xyz, errV_zero]
  rw [scriptR_xyz] at hr1
  go_wp2_with fail
  refine (marks_any [⟨45, cX⟩, ⟨32, cY⟩, ⟨43, cZ⟩] [⟨45, cX⟩, ⟨32, cY⟩, ⟨43, cZ⟩] _ _ _ ((hr1.never ((Chg.refl _ _).alloc _)).sub (fun _ _ h => h.elim)) (rdv_lit (e := 37) (cs := [.int .u8 45, .string cX, .int .u8 32, .string cY, .int .u8 43, .string cZ]) (heap_alloc_new _ _) rfl (by decide) ⟨rd_mark _ _ 45 cX (by decide) (by decide) (by decide), rd_mark _ _ 32 cY (by decide) (by decide) (by decide), rd_mark _ _ 43 cZ (by decide) (by decide) (by decide), trivial⟩)).mono ?_
  rintro e w2 ⟨rfl, hc2⟩
  have hw : Chg Never w w2 := (hw1.alloc _).trans hc2
  clear hc2 hr1 hw1
  rw [decide_eq_true rfl]
  go_wp2_with fail
  refine (script_any a b _ _ _ (ha.never hw) (hb.never hw)).mono ?_
  rintro e w3 ⟨r3, rfl, hc3, hr3⟩
  have hw := hw.trans hc3
  clear hc3
  rw [HZ.out, errV_zero]
  rw [scriptR, if_pos HZ.out] at hr3
  have hr3 := hr3.sub (O' := Never) (fun _ _ h => h.elim)
  go_wp2_with fail
  refine (far_any a b _ _ _ (ha.never hw) (hb.never hw)).mono ?_
  rintro e w4 ⟨rfl, hc4⟩
  have hw := hw.trans hc4
  have hr3 := hr3.never hc4
  clear hc4
  rw [F1.out]
  go_wp2_with fail
  refine (old_any _ _ _ hr3).mono ?_
  rintro e w5 ⟨r5, rfl, hc5, hr5⟩
  have hw := hw.trans hc5
  have hr3 := hr3.never hc5
  clear hc5
  rw [SV.out, errV_zero]
  rw [thoseR_ok SV.out, show those (script a b) 43 = a from script_old a b] at hr5
  have hr5 := hr5.sub (O' := Never) (fun _ _ h => h.elim)
  go_wp2_with fail
  refine (new_any _ _ _ hr3).mono ?_
  rintro e w6 ⟨r6, rfl, hc6, hr6⟩
  have hw := hw.trans hc6
  have hr3 := hr3.never hc6
  have hr5 := hr5.never hc6
  clear hc6
  rw [SV.out, errV_zero]
  rw [thoseR_ok SV.out, show those (script a b) 45 = b from script_new a b] at hr6
  have hr6 := hr6.sub (O' := Never) (fun _ _ h => h.elim)
  go_wp2_with fail
  refine (texts_any a a _ _ _ hr5 (ha.never hw)).mono ?_
  rintro e w7 ⟨rfl, hc7⟩
  have hw := hw.trans hc7
  have hr3 := hr3.never hc7
  have hr6 := hr6.never hc7
  clear hc7 hr5
  rw [decide_eq_true rfl]
  go_wp2_with fail
  refine (texts_any b b _ _ _ hr6 (hb.never hw)).mono ?_
  rintro e w8 ⟨rfl, hc8⟩
  have hw := hw.trans hc8
  have hr3 := hr3.never hc8
  clear hc8 hr6
  rw [decide_eq_true rfl]
  go_wp2_with fail
  refine (changes_any _ _ _ hr3).mono ?_
  rintro e w9 ⟨rfl, rfl⟩
  rw [script_changes]
  clear hr3
  go_wp2_with fail
  refine (old_any s _ _ (hs.never hw)).mono ?_
  rintro e w10 ⟨r10, rfl, hc10, hr10⟩
  have hw := hw.trans hc10
  have hr10 := hr10.sub (O' := Never) (fun _ _ h => h.elim)
  clear hc10
  rw [HS.out, errV_zero]
  go_wp2_with fail
  refine (new_any s _ _ (hs.never hw)).mono ?_
  rintro e w11 ⟨r11, rfl, hc11, hr11⟩
  have hw := hw.trans hc11
  have hr10 := hr10.never hc11
  have hr11 := hr11.sub (O' := Never) (fun _ _ h => h.elim)
  clear hc11
  rw [HS.out, errV_zero]
  go_wp2_with fail
  refine (far_any _ _ _ _ _ hr10 hr11).mono ?_
  rintro e w12 ⟨rfl, hc12⟩
  have hw := hw.trans hc12
  clear hc12 hr10 hr11
  rw [F2.out]
  go_wp2_with fail
  refine (changes_any s _ _ (hs.never hw)).mono ?_
  rintro e w13 ⟨rfl, rfl⟩
  go_wp2_with fail
  go_ret
  exact ⟨rfl, hw⟩

set_option maxHeartbeats 1000000 in
set_option maxRecDepth 100000 in
theorem leads_bad_ok2 (a b : List ByteArray) (s : List Mark) (va vb vs : Value) (w : World) (ha : Rdv w Never va a) (hb : Rdv w Never vb b) (hs : Rdv w Never vs s)
    (HZ : Hid (checkedFault a b ≠ 0)) (HS : Hid (scriptFault s = 0)) (HF : Hid (checkedFault (thoseR s 43) (thoseR s 45) = 0)) :
    Calls Try.prog 5 #[va, vb, vs] w fun e w' => e = .returned (.bool true) ∧ Chg Never w w' := by
  have F2 := Lib.hid (farV_ok HF.out)
  have hle := far_changes HS.out
  go_enter Try.func5, Try.ntmps5
  go_wp2_with fail
  refine (script_any [cX, cY] [cY, cZ] _ _ _ (rdv_lit (e := 9) (cs := [.string cX, .string cY]) (heap_two _ _ _).1 rfl (by decide) ⟨⟨rfl, by decide⟩, ⟨rfl, by decide⟩, trivial⟩) (rdv_lit (e := 9) (cs := [.string cY, .string cZ]) (heap_two _ _ _).2 rfl (by decide) ⟨⟨rfl, by decide⟩, ⟨rfl, by decide⟩, trivial⟩)).mono ?_
  rintro e w1 ⟨r1, rfl, hc1, hr1⟩
  have hw1 : Chg Never w w1 := (((Chg.refl Never w).alloc _).alloc _).trans hc1
  clear hc1
  rw [fault_xyz, errV_zero]
  rw [scriptR_xyz] at hr1
  go_wp2_with fail
  refine (marks_any [⟨45, cX⟩, ⟨32, cY⟩, ⟨43, cZ⟩] [⟨45, cX⟩, ⟨32, cY⟩, ⟨43, cZ⟩] _ _ _ ((hr1.never ((Chg.refl _ _).alloc _)).sub (fun _ _ h => h.elim)) (rdv_lit (e := 37) (cs := [.int .u8 45, .string cX, .int .u8 32, .string cY, .int .u8 43, .string cZ]) (heap_alloc_new _ _) rfl (by decide) ⟨rd_mark _ _ 45 cX (by decide) (by decide) (by decide), rd_mark _ _ 32 cY (by decide) (by decide) (by decide), rd_mark _ _ 43 cZ (by decide) (by decide) (by decide), trivial⟩)).mono ?_
  rintro e w2 ⟨rfl, hc2⟩
  have hw : Chg Never w w2 := (hw1.alloc _).trans hc2
  clear hc2 hr1 hw1
  rw [decide_eq_true rfl]
  go_wp2_with fail
  refine (script_any a b _ _ _ (ha.never hw) (hb.never hw)).mono ?_
  rintro e w3 ⟨r3, rfl, hc3, hr3⟩
  have hw := hw.trans hc3
  clear hc3 hr3
  rw [errV_pos HZ.out]
  go_wp2_with fail
  refine (old_any s _ _ (hs.never hw)).mono ?_
  rintro e w10 ⟨r10, rfl, hc10, hr10⟩
  have hw := hw.trans hc10
  have hr10 := hr10.sub (O' := Never) (fun _ _ h => h.elim)
  clear hc10
  rw [HS.out, errV_zero]
  go_wp2_with fail
  refine (new_any s _ _ (hs.never hw)).mono ?_
  rintro e w11 ⟨r11, rfl, hc11, hr11⟩
  have hw := hw.trans hc11
  have hr10 := hr10.never hc11
  have hr11 := hr11.sub (O' := Never) (fun _ _ h => h.elim)
  clear hc11
  rw [HS.out, errV_zero]
  go_wp2_with fail
  refine (far_any _ _ _ _ _ hr10 hr11).mono ?_
  rintro e w12 ⟨rfl, hc12⟩
  have hw := hw.trans hc12
  clear hc12 hr10 hr11
  rw [F2.out]
  go_wp2_with fail
  refine (changes_any s _ _ (hs.never hw)).mono ?_
  rintro e w13 ⟨rfl, rfl⟩
  go_wp2_with fail
  go_ret
  exact ⟨rfl, hw⟩

theorem law_leads (a b : List ByteArray) (s : List Mark) (va vb vs : Value) (w : World) (ha : Rdv w Never va a) (hb : Rdv w Never vb b) (hs : Rdv w Never vs s) :
    Calls Try.prog 5 #[va, vb, vs] w fun e w' => e = .returned (.bool true) ∧ Chg Never w w' := by
  by_cases hz : checkedFault a b = 0 <;> by_cases hs' : scriptFault s = 0
  · by_cases hf : checkedFault (thoseR s 43) (thoseR s 45) = 0
    · exact leads_ok_ok2 a b s va vb vs w ha hb hs hz hs' hf
    · exact leads_ok_ok1 a b s va vb vs w ha hb hs hz hs' hf
  · exact leads_ok_bad a b s va vb vs w ha hb hs hz hs'
  · by_cases hf : checkedFault (thoseR s 43) (thoseR s 45) = 0
    · exact leads_bad_ok2 a b s va vb vs w ha hb hs hz hs' hf
    · exact leads_bad_ok1 a b s va vb vs w ha hb hs hz hs' hf
  · exact leads_bad_bad a b s va vb vs w ha hb hs hz hs'
end Go.Proofs.Yteaclccoicplgaa
