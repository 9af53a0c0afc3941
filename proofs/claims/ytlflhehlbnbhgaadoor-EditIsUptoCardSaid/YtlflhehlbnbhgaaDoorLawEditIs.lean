/-
  THE LAW EditIs, walked.
-/
import Derived.Test.YtlflhehlbnbhgaaDoorRefC
import Derived.Test.YtlflhehlbnbhgaaDoorAs
import Derived.Test.YtlflhehlbnbhgaaDoorFarA
namespace Go.Proofs.YtlflhehlbnbhgaaDoor
open Go.RowKit

set_option maxHeartbeats 2000000 in
set_option maxRecDepth 100000 in
theorem editIs_00 (s : List Mark) (a b : List ByteArray) (vs va vb : Value) (w : World) (hs : Rdv w Never vs s) (ha : Rdv w Never va a) (hb : Rdv w Never vb b) (hg : w.cell? ⟨0, 0, none⟩ = some errT)
    (HZ : Hid (scriptFault s = 0)) (h1 : Hid (linesFault a = 0)) (h2 : Hid (linesFault b = 0)) :
    Calls Tryd.prog 3 #[vs, va, vb] w fun e w' => e = .returned (.bool true) ∧ Chg Never w w' := by
  have t1 : (scriptFault s == 0) = true := by rw [HZ.out]; rfl
  have hla := linesFault_len h1.out
  have hlb := linesFault_len h2.out
  have HK : Hid (checkedFault a b = 0) := checkedFault_zero.2 ⟨h1.out, h2.out⟩
  have HC : Hid (checkedFault a b = linesFault b) := by rw [Hid, HK.out, h2.out]
  have HSR : Hid (scriptR a b = script a b) := if_pos HK.out
  have t2 : (linesFault a == 0) = true := by rw [h1.out]; rfl
  have t3 : (linesFault b == 0) = true := by rw [h2.out]; rfl
  go_enter Tryd.func3, Tryd.ntmps3
  go_wp2_with fail
  refine (refScript_any s _ _ hs).mono ?_
  rintro e w1 ⟨rfl, hw⟩
  go_wp2_with fail
  refine (edit_check_any s _ _ (hs.never hw)).mono ?_
  rintro e w2 ⟨rfl, hc2⟩
  have hw := hw.trans hc2
  clear hc2
  go_wp2_with fail
  refine (error_any _ _ _ (hw.cellNever hg)).mono ?_
  rintro e' w' ⟨rfl, hcE⟩
  have hw := hw.trans hcE
  skip
  clear hcE
  rw [beq_self_eq_true]
  go_wp2_with fail
  refine (refOld_any s _ _ (hs.never hw) HZ.out).mono ?_
  rintro e w3 ⟨r3, rfl, hc3, hr3⟩
  have hw := hw.trans hc3
  have hr3 := hr3.sub (O' := Never) (fun _ _ h => h.elim)
  clear hc3
  go_wp2_with fail
  refine (refNew_any s _ _ (hs.never hw) HZ.out).mono ?_
  rintro e w4 ⟨r4, rfl, hc4, hr4⟩
  have hw := hw.trans hc4
  have hr3 := hr3.never hc4
  have hr4 := hr4.sub (O' := Never) (fun _ _ h => h.elim)
  clear hc4
  have hT : ∀ no, thoseR s no = those s no := fun no => if_pos HZ.out
  go_wp2_with fail
  refine (old_any s _ _ (hs.never hw)).mono ?_
  rintro e w5 ⟨r5, rfl, hc5, hr5⟩
  have hw := hw.trans hc5
  have ho := (hr3).never hc5
  have hn := (hr4).never hc5
  have hr5 := hr5.sub (O' := Never) (fun _ _ h => h.elim)
  clear hc5
  go_wp2_with fail
  refine (error_any _ _ _ (hw.cellNever hg)).mono ?_
  rintro e' w' ⟨rfl, hcE⟩
  have hw := hw.trans hcE
  have ho := ho.never hcE; have hn := hn.never hcE; have hr5 := hr5.never hcE
  clear hcE
  rw [beq_self_eq_true]
  go_wp2_with fail
  rw [hT] at hr5
  refine (texts_any _ _ _ _ _ hr5 ho).mono ?_
  rintro e w6 ⟨rfl, hc6⟩
  have hw := hw.trans hc6
  have hn := hn.never hc6
  rw [decide_eq_true rfl]
  clear hc6 hr5 ho
  go_wp2_with fail
  refine (new_any s _ _ (hs.never hw)).mono ?_
  rintro e w7 ⟨r7, rfl, hc7, hr7⟩
  have hw := hw.trans hc7
  have hn := hn.never hc7
  have hr7 := hr7.sub (O' := Never) (fun _ _ h => h.elim)
  clear hc7
  go_wp2_with fail
  refine (error_any _ _ _ (hw.cellNever hg)).mono ?_
  rintro e' w' ⟨rfl, hcE⟩
  have hw := hw.trans hcE
  have hn := hn.never hcE; have hr7 := hr7.never hcE
  clear hcE
  rw [beq_self_eq_true]
  go_wp2_with fail
  rw [hT] at hr7
  refine (texts_any _ _ _ _ _ hr7 hn).mono ?_
  rintro e w8 ⟨rfl, hc8⟩
  have hw := hw.trans hc8
  rw [decide_eq_true rfl]
  clear hc8 hr7 hn
  go_wp2_with fail
  refine (refLines_any a _ _ (ha.never hw)).mono ?_
  rintro e w9 ⟨rfl, hc9⟩
  have hw := hw.trans hc9
  clear hc9
  go_wp2_with fail
  refine (refLines_any b _ _ (hb.never hw)).mono ?_
  rintro e w10 ⟨rfl, hc10⟩
  have hw := hw.trans hc10
  clear hc10
  go_wp2_with fail
  refine (scriptOf_any a b _ _ _ (ha.never hw) (hb.never hw) hla hlb).mono ?_
  rintro e wS ⟨rS, rfl, hcS, hrS⟩
  have hw := hw.trans hcS
  have hrS := hrS.sub (O' := Never) (fun _ _ h => h.elim)
  clear hcS
  go_wp2_with fail
  refine (farOf_any a b _ _ _ (ha.never hw) (hb.never hw) hla hlb).mono ?_
  rintro e wF ⟨rfl, hcF⟩
  have hw := hw.trans hcF
  have hrS := hrS.never hcF
  clear hcF
  go_wp2_with fail
  refine (script_any a b _ _ _ (ha.never hw) (hb.never hw)).mono ?_
  rintro e w11 ⟨r11, rfl, hc11, hr11⟩
  have hw := hw.trans hc11
  have hs2 := (hrS).never hc11
  have hr11 := hr11.sub (O' := Never) (fun _ _ h => h.elim)
  clear hc11
  rw [HC.out]
  go_wp2_with fail
  refine (error_any _ _ _ (hw.cellNever hg)).mono ?_
  rintro e' w' ⟨rfl, hcE⟩
  have hw := hw.trans hcE
  have hs2 := hs2.never hcE; have hr11 := hr11.never hcE
  clear hcE
  rw [beq_self_eq_true]
  go_wp2_with fail
  rw [HSR.out] at hr11
  refine (marks_any _ _ _ _ _ hr11 hs2).mono ?_
  rintro e w12 ⟨rfl, hc12⟩
  have hw := hw.trans hc12
  rw [decide_eq_true rfl]
  clear hc12 hr11 hs2
  go_wp2_with fail
  refine (far_any a b _ _ _ (ha.never hw) (hb.never hw)).mono ?_
  rintro e w13 ⟨rfl, hc13⟩
  have hw := hw.trans hc13
  clear hc13
  unfold farV
  rw [if_pos HK.out, HC.out]
  go_wp2_with fail
  refine (error_any _ _ _ (hw.cellNever hg)).mono ?_
  rintro e' w' ⟨rfl, hcE⟩
  have hw := hw.trans hcE
  skip
  clear hcE
  rw [beq_self_eq_true]
  go_wp2_with fail
  go_ret
  exact ⟨rfl, hw⟩
set_option maxHeartbeats 2000000 in
set_option maxRecDepth 100000 in
theorem editIs_01 (s : List Mark) (a b : List ByteArray) (vs va vb : Value) (w : World) (hs : Rdv w Never vs s) (ha : Rdv w Never va a) (hb : Rdv w Never vb b) (hg : w.cell? ⟨0, 0, none⟩ = some errT)
    (HZ : Hid (scriptFault s = 0)) (h1 : Hid (linesFault a = 0)) (h2 : Hid (linesFault b ≠ 0)) :
    Calls Tryd.prog 3 #[vs, va, vb] w fun e w' => e = .returned (.bool true) ∧ Chg Never w w' := by
  have t1 : (scriptFault s == 0) = true := by rw [HZ.out]; rfl
  have HC : Hid (checkedFault a b = linesFault b) := if_pos h1.out
  have HK : Hid (¬ checkedFault a b = 0) := fun e => h2.out (by rw [← HC.out]; exact e)
  have HSR : Hid (scriptR a b = []) := if_neg HK.out
  have t2 : (linesFault a == 0) = true := by rw [h1.out]; rfl
  have t3 : (linesFault b == 0) = false := beq_eq_false_iff_ne.2 h2.out
  go_enter Tryd.func3, Tryd.ntmps3
  go_wp2_with fail
  refine (refScript_any s _ _ hs).mono ?_
  rintro e w1 ⟨rfl, hw⟩
  go_wp2_with fail
  refine (edit_check_any s _ _ (hs.never hw)).mono ?_
  rintro e w2 ⟨rfl, hc2⟩
  have hw := hw.trans hc2
  clear hc2
  go_wp2_with fail
  refine (error_any _ _ _ (hw.cellNever hg)).mono ?_
  rintro e' w' ⟨rfl, hcE⟩
  have hw := hw.trans hcE
  skip
  clear hcE
  rw [beq_self_eq_true]
  go_wp2_with fail
  refine (refOld_any s _ _ (hs.never hw) HZ.out).mono ?_
  rintro e w3 ⟨r3, rfl, hc3, hr3⟩
  have hw := hw.trans hc3
  have hr3 := hr3.sub (O' := Never) (fun _ _ h => h.elim)
  clear hc3
  go_wp2_with fail
  refine (refNew_any s _ _ (hs.never hw) HZ.out).mono ?_
  rintro e w4 ⟨r4, rfl, hc4, hr4⟩
  have hw := hw.trans hc4
  have hr3 := hr3.never hc4
  have hr4 := hr4.sub (O' := Never) (fun _ _ h => h.elim)
  clear hc4
  have hT : ∀ no, thoseR s no = those s no := fun no => if_pos HZ.out
  go_wp2_with fail
  refine (old_any s _ _ (hs.never hw)).mono ?_
  rintro e w5 ⟨r5, rfl, hc5, hr5⟩
  have hw := hw.trans hc5
  have ho := (hr3).never hc5
  have hn := (hr4).never hc5
  have hr5 := hr5.sub (O' := Never) (fun _ _ h => h.elim)
  clear hc5
  go_wp2_with fail
  refine (error_any _ _ _ (hw.cellNever hg)).mono ?_
  rintro e' w' ⟨rfl, hcE⟩
  have hw := hw.trans hcE
  have ho := ho.never hcE; have hn := hn.never hcE; have hr5 := hr5.never hcE
  clear hcE
  rw [beq_self_eq_true]
  go_wp2_with fail
  rw [hT] at hr5
  refine (texts_any _ _ _ _ _ hr5 ho).mono ?_
  rintro e w6 ⟨rfl, hc6⟩
  have hw := hw.trans hc6
  have hn := hn.never hc6
  rw [decide_eq_true rfl]
  clear hc6 hr5 ho
  go_wp2_with fail
  refine (new_any s _ _ (hs.never hw)).mono ?_
  rintro e w7 ⟨r7, rfl, hc7, hr7⟩
  have hw := hw.trans hc7
  have hn := hn.never hc7
  have hr7 := hr7.sub (O' := Never) (fun _ _ h => h.elim)
  clear hc7
  go_wp2_with fail
  refine (error_any _ _ _ (hw.cellNever hg)).mono ?_
  rintro e' w' ⟨rfl, hcE⟩
  have hw := hw.trans hcE
  have hn := hn.never hcE; have hr7 := hr7.never hcE
  clear hcE
  rw [beq_self_eq_true]
  go_wp2_with fail
  rw [hT] at hr7
  refine (texts_any _ _ _ _ _ hr7 hn).mono ?_
  rintro e w8 ⟨rfl, hc8⟩
  have hw := hw.trans hc8
  rw [decide_eq_true rfl]
  clear hc8 hr7 hn
  go_wp2_with fail
  refine (refLines_any a _ _ (ha.never hw)).mono ?_
  rintro e w9 ⟨rfl, hc9⟩
  have hw := hw.trans hc9
  clear hc9
  go_wp2_with fail
  refine (refLines_any b _ _ (hb.never hw)).mono ?_
  rintro e w10 ⟨rfl, hc10⟩
  have hw := hw.trans hc10
  clear hc10
  go_wp2_with fail
  refine (script_any a b _ _ _ (ha.never hw) (hb.never hw)).mono ?_
  rintro e w11 ⟨r11, rfl, hc11, hr11⟩
  have hw := hw.trans hc11
  have hs2 := (rdv_nil (α := Mark) _ Never).never hc11
  have hr11 := hr11.sub (O' := Never) (fun _ _ h => h.elim)
  clear hc11
  rw [HC.out]
  go_wp2_with fail
  refine (error_any _ _ _ (hw.cellNever hg)).mono ?_
  rintro e' w' ⟨rfl, hcE⟩
  have hw := hw.trans hcE
  have hs2 := hs2.never hcE; have hr11 := hr11.never hcE
  clear hcE
  rw [beq_self_eq_true]
  go_wp2_with fail
  rw [HSR.out] at hr11
  refine (marks_any _ _ _ _ _ hr11 hs2).mono ?_
  rintro e w12 ⟨rfl, hc12⟩
  have hw := hw.trans hc12
  rw [decide_eq_true rfl]
  clear hc12 hr11 hs2
  go_wp2_with fail
  refine (far_any a b _ _ _ (ha.never hw) (hb.never hw)).mono ?_
  rintro e w13 ⟨rfl, hc13⟩
  have hw := hw.trans hc13
  clear hc13
  unfold farV
  rw [if_neg HK.out, HC.out]
  go_wp2_with fail
  refine (error_any _ _ _ (hw.cellNever hg)).mono ?_
  rintro e' w' ⟨rfl, hcE⟩
  have hw := hw.trans hcE
  skip
  clear hcE
  rw [beq_self_eq_true]
  go_wp2_with fail
  go_ret
  exact ⟨rfl, hw⟩
set_option maxHeartbeats 2000000 in
set_option maxRecDepth 100000 in
theorem editIs_02 (s : List Mark) (a b : List ByteArray) (vs va vb : Value) (w : World) (hs : Rdv w Never vs s) (ha : Rdv w Never va a) (hb : Rdv w Never vb b) (hg : w.cell? ⟨0, 0, none⟩ = some errT)
    (HZ : Hid (scriptFault s = 0)) (h1 : Hid (linesFault a ≠ 0)) :
    Calls Tryd.prog 3 #[vs, va, vb] w fun e w' => e = .returned (.bool true) ∧ Chg Never w w' := by
  have t1 : (scriptFault s == 0) = true := by rw [HZ.out]; rfl
  have HC : Hid (checkedFault a b = linesFault a) := if_neg h1.out
  have HK : Hid (¬ checkedFault a b = 0) := fun e => h1.out (by rw [← HC.out]; exact e)
  have HSR : Hid (scriptR a b = []) := if_neg HK.out
  have t2 : (linesFault a == 0) = false := beq_eq_false_iff_ne.2 h1.out
  go_enter Tryd.func3, Tryd.ntmps3
  go_wp2_with fail
  refine (refScript_any s _ _ hs).mono ?_
  rintro e w1 ⟨rfl, hw⟩
  go_wp2_with fail
  refine (edit_check_any s _ _ (hs.never hw)).mono ?_
  rintro e w2 ⟨rfl, hc2⟩
  have hw := hw.trans hc2
  clear hc2
  go_wp2_with fail
  refine (error_any _ _ _ (hw.cellNever hg)).mono ?_
  rintro e' w' ⟨rfl, hcE⟩
  have hw := hw.trans hcE
  skip
  clear hcE
  rw [beq_self_eq_true]
  go_wp2_with fail
  refine (refOld_any s _ _ (hs.never hw) HZ.out).mono ?_
  rintro e w3 ⟨r3, rfl, hc3, hr3⟩
  have hw := hw.trans hc3
  have hr3 := hr3.sub (O' := Never) (fun _ _ h => h.elim)
  clear hc3
  go_wp2_with fail
  refine (refNew_any s _ _ (hs.never hw) HZ.out).mono ?_
  rintro e w4 ⟨r4, rfl, hc4, hr4⟩
  have hw := hw.trans hc4
  have hr3 := hr3.never hc4
  have hr4 := hr4.sub (O' := Never) (fun _ _ h => h.elim)
  clear hc4
  have hT : ∀ no, thoseR s no = those s no := fun no => if_pos HZ.out
  go_wp2_with fail
  refine (old_any s _ _ (hs.never hw)).mono ?_
  rintro e w5 ⟨r5, rfl, hc5, hr5⟩
  have hw := hw.trans hc5
  have ho := (hr3).never hc5
  have hn := (hr4).never hc5
  have hr5 := hr5.sub (O' := Never) (fun _ _ h => h.elim)
  clear hc5
  go_wp2_with fail
  refine (error_any _ _ _ (hw.cellNever hg)).mono ?_
  rintro e' w' ⟨rfl, hcE⟩
  have hw := hw.trans hcE
  have ho := ho.never hcE; have hn := hn.never hcE; have hr5 := hr5.never hcE
  clear hcE
  rw [beq_self_eq_true]
  go_wp2_with fail
  rw [hT] at hr5
  refine (texts_any _ _ _ _ _ hr5 ho).mono ?_
  rintro e w6 ⟨rfl, hc6⟩
  have hw := hw.trans hc6
  have hn := hn.never hc6
  rw [decide_eq_true rfl]
  clear hc6 hr5 ho
  go_wp2_with fail
  refine (new_any s _ _ (hs.never hw)).mono ?_
  rintro e w7 ⟨r7, rfl, hc7, hr7⟩
  have hw := hw.trans hc7
  have hn := hn.never hc7
  have hr7 := hr7.sub (O' := Never) (fun _ _ h => h.elim)
  clear hc7
  go_wp2_with fail
  refine (error_any _ _ _ (hw.cellNever hg)).mono ?_
  rintro e' w' ⟨rfl, hcE⟩
  have hw := hw.trans hcE
  have hn := hn.never hcE; have hr7 := hr7.never hcE
  clear hcE
  rw [beq_self_eq_true]
  go_wp2_with fail
  rw [hT] at hr7
  refine (texts_any _ _ _ _ _ hr7 hn).mono ?_
  rintro e w8 ⟨rfl, hc8⟩
  have hw := hw.trans hc8
  rw [decide_eq_true rfl]
  clear hc8 hr7 hn
  go_wp2_with fail
  refine (refLines_any a _ _ (ha.never hw)).mono ?_
  rintro e w9 ⟨rfl, hc9⟩
  have hw := hw.trans hc9
  clear hc9
  go_wp2_with fail
  refine (script_any a b _ _ _ (ha.never hw) (hb.never hw)).mono ?_
  rintro e w11 ⟨r11, rfl, hc11, hr11⟩
  have hw := hw.trans hc11
  have hs2 := (rdv_nil (α := Mark) _ Never).never hc11
  have hr11 := hr11.sub (O' := Never) (fun _ _ h => h.elim)
  clear hc11
  rw [HC.out]
  go_wp2_with fail
  refine (error_any _ _ _ (hw.cellNever hg)).mono ?_
  rintro e' w' ⟨rfl, hcE⟩
  have hw := hw.trans hcE
  have hs2 := hs2.never hcE; have hr11 := hr11.never hcE
  clear hcE
  rw [beq_self_eq_true]
  go_wp2_with fail
  rw [HSR.out] at hr11
  refine (marks_any _ _ _ _ _ hr11 hs2).mono ?_
  rintro e w12 ⟨rfl, hc12⟩
  have hw := hw.trans hc12
  rw [decide_eq_true rfl]
  clear hc12 hr11 hs2
  go_wp2_with fail
  refine (far_any a b _ _ _ (ha.never hw) (hb.never hw)).mono ?_
  rintro e w13 ⟨rfl, hc13⟩
  have hw := hw.trans hc13
  clear hc13
  unfold farV
  rw [if_neg HK.out, HC.out]
  go_wp2_with fail
  refine (error_any _ _ _ (hw.cellNever hg)).mono ?_
  rintro e' w' ⟨rfl, hcE⟩
  have hw := hw.trans hcE
  skip
  clear hcE
  rw [beq_self_eq_true]
  go_wp2_with fail
  go_ret
  exact ⟨rfl, hw⟩
set_option maxHeartbeats 2000000 in
set_option maxRecDepth 100000 in
theorem editIs_10 (s : List Mark) (a b : List ByteArray) (vs va vb : Value) (w : World) (hs : Rdv w Never vs s) (ha : Rdv w Never va a) (hb : Rdv w Never vb b) (hg : w.cell? ⟨0, 0, none⟩ = some errT)
    (HZ : Hid (scriptFault s ≠ 0)) (h1 : Hid (linesFault a = 0)) (h2 : Hid (linesFault b = 0)) :
    Calls Tryd.prog 3 #[vs, va, vb] w fun e w' => e = .returned (.bool true) ∧ Chg Never w w' := by
  have t1 : (scriptFault s == 0) = false := beq_eq_false_iff_ne.2 HZ.out
  have hla := linesFault_len h1.out
  have hlb := linesFault_len h2.out
  have HK : Hid (checkedFault a b = 0) := checkedFault_zero.2 ⟨h1.out, h2.out⟩
  have HC : Hid (checkedFault a b = linesFault b) := by rw [Hid, HK.out, h2.out]
  have HSR : Hid (scriptR a b = script a b) := if_pos HK.out
  have t2 : (linesFault a == 0) = true := by rw [h1.out]; rfl
  have t3 : (linesFault b == 0) = true := by rw [h2.out]; rfl
  go_enter Tryd.func3, Tryd.ntmps3
  go_wp2_with fail
  refine (refScript_any s _ _ hs).mono ?_
  rintro e w1 ⟨rfl, hw⟩
  go_wp2_with fail
  refine (edit_check_any s _ _ (hs.never hw)).mono ?_
  rintro e w2 ⟨rfl, hc2⟩
  have hw := hw.trans hc2
  clear hc2
  go_wp2_with fail
  refine (error_any _ _ _ (hw.cellNever hg)).mono ?_
  rintro e' w' ⟨rfl, hcE⟩
  have hw := hw.trans hcE
  skip
  clear hcE
  rw [beq_self_eq_true]
  have hT : ∀ no, thoseR s no = [] := fun no => if_neg HZ.out
  go_wp2_with fail
  refine (old_any s _ _ (hs.never hw)).mono ?_
  rintro e w5 ⟨r5, rfl, hc5, hr5⟩
  have hw := hw.trans hc5
  have ho := (rdv_nil (α := ByteArray) _ Never).never hc5
  have hn := (rdv_nil (α := ByteArray) _ Never).never hc5
  have hr5 := hr5.sub (O' := Never) (fun _ _ h => h.elim)
  clear hc5
  go_wp2_with fail
  refine (error_any _ _ _ (hw.cellNever hg)).mono ?_
  rintro e' w' ⟨rfl, hcE⟩
  have hw := hw.trans hcE
  have ho := ho.never hcE; have hn := hn.never hcE; have hr5 := hr5.never hcE
  clear hcE
  rw [beq_self_eq_true]
  go_wp2_with fail
  rw [hT] at hr5
  refine (texts_any _ _ _ _ _ hr5 ho).mono ?_
  rintro e w6 ⟨rfl, hc6⟩
  have hw := hw.trans hc6
  have hn := hn.never hc6
  rw [decide_eq_true rfl]
  clear hc6 hr5 ho
  go_wp2_with fail
  refine (new_any s _ _ (hs.never hw)).mono ?_
  rintro e w7 ⟨r7, rfl, hc7, hr7⟩
  have hw := hw.trans hc7
  have hn := hn.never hc7
  have hr7 := hr7.sub (O' := Never) (fun _ _ h => h.elim)
  clear hc7
  go_wp2_with fail
  refine (error_any _ _ _ (hw.cellNever hg)).mono ?_
  rintro e' w' ⟨rfl, hcE⟩
  have hw := hw.trans hcE
  have hn := hn.never hcE; have hr7 := hr7.never hcE
  clear hcE
  rw [beq_self_eq_true]
  go_wp2_with fail
  rw [hT] at hr7
  refine (texts_any _ _ _ _ _ hr7 hn).mono ?_
  rintro e w8 ⟨rfl, hc8⟩
  have hw := hw.trans hc8
  rw [decide_eq_true rfl]
  clear hc8 hr7 hn
  go_wp2_with fail
  refine (refLines_any a _ _ (ha.never hw)).mono ?_
  rintro e w9 ⟨rfl, hc9⟩
  have hw := hw.trans hc9
  clear hc9
  go_wp2_with fail
  refine (refLines_any b _ _ (hb.never hw)).mono ?_
  rintro e w10 ⟨rfl, hc10⟩
  have hw := hw.trans hc10
  clear hc10
  go_wp2_with fail
  refine (scriptOf_any a b _ _ _ (ha.never hw) (hb.never hw) hla hlb).mono ?_
  rintro e wS ⟨rS, rfl, hcS, hrS⟩
  have hw := hw.trans hcS
  have hrS := hrS.sub (O' := Never) (fun _ _ h => h.elim)
  clear hcS
  go_wp2_with fail
  refine (farOf_any a b _ _ _ (ha.never hw) (hb.never hw) hla hlb).mono ?_
  rintro e wF ⟨rfl, hcF⟩
  have hw := hw.trans hcF
  have hrS := hrS.never hcF
  clear hcF
  go_wp2_with fail
  refine (script_any a b _ _ _ (ha.never hw) (hb.never hw)).mono ?_
  rintro e w11 ⟨r11, rfl, hc11, hr11⟩
  have hw := hw.trans hc11
  have hs2 := (hrS).never hc11
  have hr11 := hr11.sub (O' := Never) (fun _ _ h => h.elim)
  clear hc11
  rw [HC.out]
  go_wp2_with fail
  refine (error_any _ _ _ (hw.cellNever hg)).mono ?_
  rintro e' w' ⟨rfl, hcE⟩
  have hw := hw.trans hcE
  have hs2 := hs2.never hcE; have hr11 := hr11.never hcE
  clear hcE
  rw [beq_self_eq_true]
  go_wp2_with fail
  rw [HSR.out] at hr11
  refine (marks_any _ _ _ _ _ hr11 hs2).mono ?_
  rintro e w12 ⟨rfl, hc12⟩
  have hw := hw.trans hc12
  rw [decide_eq_true rfl]
  clear hc12 hr11 hs2
  go_wp2_with fail
  refine (far_any a b _ _ _ (ha.never hw) (hb.never hw)).mono ?_
  rintro e w13 ⟨rfl, hc13⟩
  have hw := hw.trans hc13
  clear hc13
  unfold farV
  rw [if_pos HK.out, HC.out]
  go_wp2_with fail
  refine (error_any _ _ _ (hw.cellNever hg)).mono ?_
  rintro e' w' ⟨rfl, hcE⟩
  have hw := hw.trans hcE
  skip
  clear hcE
  rw [beq_self_eq_true]
  go_wp2_with fail
  go_ret
  exact ⟨rfl, hw⟩
set_option maxHeartbeats 2000000 in
set_option maxRecDepth 100000 in
theorem editIs_11 (s : List Mark) (a b : List ByteArray) (vs va vb : Value) (w : World) (hs : Rdv w Never vs s) (ha : Rdv w Never va a) (hb : Rdv w Never vb b) (hg : w.cell? ⟨0, 0, none⟩ = some errT)
    (HZ : Hid (scriptFault s ≠ 0)) (h1 : Hid (linesFault a = 0)) (h2 : Hid (linesFault b ≠ 0)) :
    Calls Tryd.prog 3 #[vs, va, vb] w fun e w' => e = .returned (.bool true) ∧ Chg Never w w' := by
  have t1 : (scriptFault s == 0) = false := beq_eq_false_iff_ne.2 HZ.out
  have HC : Hid (checkedFault a b = linesFault b) := if_pos h1.out
  have HK : Hid (¬ checkedFault a b = 0) := fun e => h2.out (by rw [← HC.out]; exact e)
  have HSR : Hid (scriptR a b = []) := if_neg HK.out
  have t2 : (linesFault a == 0) = true := by rw [h1.out]; rfl
  have t3 : (linesFault b == 0) = false := beq_eq_false_iff_ne.2 h2.out
  go_enter Tryd.func3, Tryd.ntmps3
  go_wp2_with fail
  refine (refScript_any s _ _ hs).mono ?_
  rintro e w1 ⟨rfl, hw⟩
  go_wp2_with fail
  refine (edit_check_any s _ _ (hs.never hw)).mono ?_
  rintro e w2 ⟨rfl, hc2⟩
  have hw := hw.trans hc2
  clear hc2
  go_wp2_with fail
  refine (error_any _ _ _ (hw.cellNever hg)).mono ?_
  rintro e' w' ⟨rfl, hcE⟩
  have hw := hw.trans hcE
  skip
  clear hcE
  rw [beq_self_eq_true]
  have hT : ∀ no, thoseR s no = [] := fun no => if_neg HZ.out
  go_wp2_with fail
  refine (old_any s _ _ (hs.never hw)).mono ?_
  rintro e w5 ⟨r5, rfl, hc5, hr5⟩
  have hw := hw.trans hc5
  have ho := (rdv_nil (α := ByteArray) _ Never).never hc5
  have hn := (rdv_nil (α := ByteArray) _ Never).never hc5
  have hr5 := hr5.sub (O' := Never) (fun _ _ h => h.elim)
  clear hc5
  go_wp2_with fail
  refine (error_any _ _ _ (hw.cellNever hg)).mono ?_
  rintro e' w' ⟨rfl, hcE⟩
  have hw := hw.trans hcE
  have ho := ho.never hcE; have hn := hn.never hcE; have hr5 := hr5.never hcE
  clear hcE
  rw [beq_self_eq_true]
  go_wp2_with fail
  rw [hT] at hr5
  refine (texts_any _ _ _ _ _ hr5 ho).mono ?_
  rintro e w6 ⟨rfl, hc6⟩
  have hw := hw.trans hc6
  have hn := hn.never hc6
  rw [decide_eq_true rfl]
  clear hc6 hr5 ho
  go_wp2_with fail
  refine (new_any s _ _ (hs.never hw)).mono ?_
  rintro e w7 ⟨r7, rfl, hc7, hr7⟩
  have hw := hw.trans hc7
  have hn := hn.never hc7
  have hr7 := hr7.sub (O' := Never) (fun _ _ h => h.elim)
  clear hc7
  go_wp2_with fail
  refine (error_any _ _ _ (hw.cellNever hg)).mono ?_
  rintro e' w' ⟨rfl, hcE⟩
  have hw := hw.trans hcE
  have hn := hn.never hcE; have hr7 := hr7.never hcE
  clear hcE
  rw [beq_self_eq_true]
  go_wp2_with fail
  rw [hT] at hr7
  refine (texts_any _ _ _ _ _ hr7 hn).mono ?_
  rintro e w8 ⟨rfl, hc8⟩
  have hw := hw.trans hc8
  rw [decide_eq_true rfl]
  clear hc8 hr7 hn
  go_wp2_with fail
  refine (refLines_any a _ _ (ha.never hw)).mono ?_
  rintro e w9 ⟨rfl, hc9⟩
  have hw := hw.trans hc9
  clear hc9
  go_wp2_with fail
  refine (refLines_any b _ _ (hb.never hw)).mono ?_
  rintro e w10 ⟨rfl, hc10⟩
  have hw := hw.trans hc10
  clear hc10
  go_wp2_with fail
  refine (script_any a b _ _ _ (ha.never hw) (hb.never hw)).mono ?_
  rintro e w11 ⟨r11, rfl, hc11, hr11⟩
  have hw := hw.trans hc11
  have hs2 := (rdv_nil (α := Mark) _ Never).never hc11
  have hr11 := hr11.sub (O' := Never) (fun _ _ h => h.elim)
  clear hc11
  rw [HC.out]
  go_wp2_with fail
  refine (error_any _ _ _ (hw.cellNever hg)).mono ?_
  rintro e' w' ⟨rfl, hcE⟩
  have hw := hw.trans hcE
  have hs2 := hs2.never hcE; have hr11 := hr11.never hcE
  clear hcE
  rw [beq_self_eq_true]
  go_wp2_with fail
  rw [HSR.out] at hr11
  refine (marks_any _ _ _ _ _ hr11 hs2).mono ?_
  rintro e w12 ⟨rfl, hc12⟩
  have hw := hw.trans hc12
  rw [decide_eq_true rfl]
  clear hc12 hr11 hs2
  go_wp2_with fail
  refine (far_any a b _ _ _ (ha.never hw) (hb.never hw)).mono ?_
  rintro e w13 ⟨rfl, hc13⟩
  have hw := hw.trans hc13
  clear hc13
  unfold farV
  rw [if_neg HK.out, HC.out]
  go_wp2_with fail
  refine (error_any _ _ _ (hw.cellNever hg)).mono ?_
  rintro e' w' ⟨rfl, hcE⟩
  have hw := hw.trans hcE
  skip
  clear hcE
  rw [beq_self_eq_true]
  go_wp2_with fail
  go_ret
  exact ⟨rfl, hw⟩
set_option maxHeartbeats 2000000 in
set_option maxRecDepth 100000 in
theorem editIs_12 (s : List Mark) (a b : List ByteArray) (vs va vb : Value) (w : World) (hs : Rdv w Never vs s) (ha : Rdv w Never va a) (hb : Rdv w Never vb b) (hg : w.cell? ⟨0, 0, none⟩ = some errT)
    (HZ : Hid (scriptFault s ≠ 0)) (h1 : Hid (linesFault a ≠ 0)) :
    Calls Tryd.prog 3 #[vs, va, vb] w fun e w' => e = .returned (.bool true) ∧ Chg Never w w' := by
  have t1 : (scriptFault s == 0) = false := beq_eq_false_iff_ne.2 HZ.out
  have HC : Hid (checkedFault a b = linesFault a) := if_neg h1.out
  have HK : Hid (¬ checkedFault a b = 0) := fun e => h1.out (by rw [← HC.out]; exact e)
  have HSR : Hid (scriptR a b = []) := if_neg HK.out
  have t2 : (linesFault a == 0) = false := beq_eq_false_iff_ne.2 h1.out
  go_enter Tryd.func3, Tryd.ntmps3
  go_wp2_with fail
  refine (refScript_any s _ _ hs).mono ?_
  rintro e w1 ⟨rfl, hw⟩
  go_wp2_with fail
  refine (edit_check_any s _ _ (hs.never hw)).mono ?_
  rintro e w2 ⟨rfl, hc2⟩
  have hw := hw.trans hc2
  clear hc2
  go_wp2_with fail
  refine (error_any _ _ _ (hw.cellNever hg)).mono ?_
  rintro e' w' ⟨rfl, hcE⟩
  have hw := hw.trans hcE
  skip
  clear hcE
  rw [beq_self_eq_true]
  have hT : ∀ no, thoseR s no = [] := fun no => if_neg HZ.out
  go_wp2_with fail
  refine (old_any s _ _ (hs.never hw)).mono ?_
  rintro e w5 ⟨r5, rfl, hc5, hr5⟩
  have hw := hw.trans hc5
  have ho := (rdv_nil (α := ByteArray) _ Never).never hc5
  have hn := (rdv_nil (α := ByteArray) _ Never).never hc5
  have hr5 := hr5.sub (O' := Never) (fun _ _ h => h.elim)
  clear hc5
  go_wp2_with fail
  refine (error_any _ _ _ (hw.cellNever hg)).mono ?_
  rintro e' w' ⟨rfl, hcE⟩
  have hw := hw.trans hcE
  have ho := ho.never hcE; have hn := hn.never hcE; have hr5 := hr5.never hcE
  clear hcE
  rw [beq_self_eq_true]
  go_wp2_with fail
  rw [hT] at hr5
  refine (texts_any _ _ _ _ _ hr5 ho).mono ?_
  rintro e w6 ⟨rfl, hc6⟩
  have hw := hw.trans hc6
  have hn := hn.never hc6
  rw [decide_eq_true rfl]
  clear hc6 hr5 ho
  go_wp2_with fail
  refine (new_any s _ _ (hs.never hw)).mono ?_
  rintro e w7 ⟨r7, rfl, hc7, hr7⟩
  have hw := hw.trans hc7
  have hn := hn.never hc7
  have hr7 := hr7.sub (O' := Never) (fun _ _ h => h.elim)
  clear hc7
  go_wp2_with fail
  refine (error_any _ _ _ (hw.cellNever hg)).mono ?_
  rintro e' w' ⟨rfl, hcE⟩
  have hw := hw.trans hcE
  have hn := hn.never hcE; have hr7 := hr7.never hcE
  clear hcE
  rw [beq_self_eq_true]
  go_wp2_with fail
  rw [hT] at hr7
  refine (texts_any _ _ _ _ _ hr7 hn).mono ?_
  rintro e w8 ⟨rfl, hc8⟩
  have hw := hw.trans hc8
  rw [decide_eq_true rfl]
  clear hc8 hr7 hn
  go_wp2_with fail
  refine (refLines_any a _ _ (ha.never hw)).mono ?_
  rintro e w9 ⟨rfl, hc9⟩
  have hw := hw.trans hc9
  clear hc9
  go_wp2_with fail
  refine (script_any a b _ _ _ (ha.never hw) (hb.never hw)).mono ?_
  rintro e w11 ⟨r11, rfl, hc11, hr11⟩
  have hw := hw.trans hc11
  have hs2 := (rdv_nil (α := Mark) _ Never).never hc11
  have hr11 := hr11.sub (O' := Never) (fun _ _ h => h.elim)
  clear hc11
  rw [HC.out]
  go_wp2_with fail
  refine (error_any _ _ _ (hw.cellNever hg)).mono ?_
  rintro e' w' ⟨rfl, hcE⟩
  have hw := hw.trans hcE
  have hs2 := hs2.never hcE; have hr11 := hr11.never hcE
  clear hcE
  rw [beq_self_eq_true]
  go_wp2_with fail
  rw [HSR.out] at hr11
  refine (marks_any _ _ _ _ _ hr11 hs2).mono ?_
  rintro e w12 ⟨rfl, hc12⟩
  have hw := hw.trans hc12
  rw [decide_eq_true rfl]
  clear hc12 hr11 hs2
  go_wp2_with fail
  refine (far_any a b _ _ _ (ha.never hw) (hb.never hw)).mono ?_
  rintro e w13 ⟨rfl, hc13⟩
  have hw := hw.trans hc13
  clear hc13
  unfold farV
  rw [if_neg HK.out, HC.out]
  go_wp2_with fail
  refine (error_any _ _ _ (hw.cellNever hg)).mono ?_
  rintro e' w' ⟨rfl, hcE⟩
  have hw := hw.trans hcE
  skip
  clear hcE
  rw [beq_self_eq_true]
  go_wp2_with fail
  go_ret
  exact ⟨rfl, hw⟩
theorem law_editIs (s : List Mark) (a b : List ByteArray) (vs va vb : Value) (w : World) (hs : Rdv w Never vs s) (ha : Rdv w Never va a) (hb : Rdv w Never vb b) (hg : w.cell? ⟨0, 0, none⟩ = some errT) :
    Calls Tryd.prog 3 #[vs, va, vb] w fun e w' => e = .returned (.bool true) ∧ Chg Never w w' := by
  by_cases h0 : scriptFault s = 0 <;> by_cases h1 : linesFault a = 0
  · by_cases h2 : linesFault b = 0
    · exact editIs_00 s a b vs va vb w hs ha hb hg h0 h1 h2
    · exact editIs_01 s a b vs va vb w hs ha hb hg h0 h1 h2
  · exact editIs_02 s a b vs va vb w hs ha hb hg h0 h1
  · by_cases h2 : linesFault b = 0
    · exact editIs_10 s a b vs va vb w hs ha hb hg h0 h1 h2
    · exact editIs_11 s a b vs va vb w hs ha hb hg h0 h1 h2
  · exact editIs_12 s a b vs va vb w hs ha hb hg h0 h1
end Go.Proofs.YtlflhehlbnbhgaaDoor
