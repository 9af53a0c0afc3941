/-
  THE LAW LineIs, walked.
-/
import Derived.Test.YtpoammapjmddfaaDoorTextB
import Derived.Test.YtpoammapjmddfaaDoorAs
namespace Go.Proofs.YtpoammapjmddfaaDoor
open Go.RowKit

set_option maxHeartbeats 2000000 in
set_option maxRecDepth 100000 in
theorem law_lineIs (l : List ByteArray) (s p : ByteArray) (vl : Value) (w : World) (hl : Rdv w Never vl l) (hs : s.size ≤ 1048576) (_hp : p.size ≤ 1048576) (m : Int) (hm : w.cell? ⟨1, 0, none⟩ = some (.int .i64 m)) (hg : w.cell? ⟨0, 0, none⟩ = some errT) :
    Calls Tryd.prog 4 #[vl, .string s, .string p] w fun e w' => e = .returned (.bool true) ∧ Chg Never w w' := by
  by_cases hz : linesFault l = 0
  · have HZ := Lib.hid hz
    have t1 : (linesFault l == 0) = true := by simp [hz]
    have HJ : Hid (joinR l = joinOf l) := if_pos hz
    clear hz
    go_enter Tryd.func4, Tryd.ntmps4
    go_wp2_with fail
    refine (refLines_any l _ _ hl).mono ?_
    rintro e w1 ⟨rfl, hw⟩
    go_wp2_with fail
    refine (check_any l _ _ (hl.never hw)).mono ?_
    rintro e w2 ⟨rfl, rfl⟩
    go_wp2_with fail
    refine (error_any _ _ _ (hw.cellNever hg)).mono ?_
    rintro e' w' ⟨rfl, hcE⟩
    have hw := hw.trans hcE
    skip
    clear hcE
    rw [beq_self_eq_true]
    go_wp2_with fail
    refine (refJoin_any l _ _ (hl.never hw) HZ.out).mono ?_
    rintro e w3 ⟨rfl, hc3⟩
    have hw := hw.trans hc3
    clear hc3
    go_wp2_with fail
    refine (line_join_any l _ _ (hl.never hw)).mono ?_
    rintro e w4 ⟨rfl, hc4⟩
    have hw := hw.trans hc4
    clear hc4
    rw [HJ.out]
    go_wp2_with fail
    refine (error_any _ _ _ (hw.cellNever hg)).mono ?_
    rintro e' w' ⟨rfl, hcE⟩
    have hw := hw.trans hcE
    skip
    clear hcE
    rw [beq_self_eq_true]
    go_wp2_with fail
    refine (refSplit_any s _ (by omega)).mono ?_
    rintro e w5 ⟨r5, rfl, hc5, hr5⟩
    have hw := hw.trans hc5
    have hr5 := hr5.sub (O' := Never) (fun _ _ h => h.elim)
    clear hc5
    go_wp2_with fail
    refine (line_split_any s _ (by omega) m (hw.cellNever hm)).mono ?_
    rintro e w6 ⟨r6, rfl, hc6, hr6⟩
    have hw := hw.trans hc6
    have hr5 := hr5.never hc6
    have hr6 := hr6.sub (O' := Never) (fun _ _ h => h.elim)
    clear hc6
    go_wp2_with fail
    refine (error_any _ _ _ (hw.cellNever hg)).mono ?_
    rintro e' w' ⟨rfl, hcE⟩
    have hw := hw.trans hcE
    have hr5 := hr5.never hcE; have hr6 := hr6.never hcE
    clear hcE
    rw [beq_self_eq_true]
    go_wp2_with fail
    refine (texts_any _ _ _ _ _ hr6 hr5).mono ?_
    rintro e w7 ⟨rfl, hc7⟩
    have hw := hw.trans hc7
    rw [decide_eq_true rfl]
    clear hc7 hr6 hr5
    go_wp2_with fail
    refine (line_path_any p _ m (hw.cellNever hm)).mono ?_
    rintro e w8 ⟨rfl, hc8⟩
    have hw := hw.trans hc8
    clear hc8
    go_wp2_with fail
    refine (refPath_any p _).mono ?_
    rintro e w9 ⟨rfl, hc9⟩
    have hw := hw.trans hc9
    clear hc9
    go_wp2_with fail
    refine (error_any _ _ _ (hw.cellNever hg)).mono ?_
    rintro e' w' ⟨rfl, hcE⟩
    have hw := hw.trans hcE
    skip
    clear hcE
    rw [beq_self_eq_true]
    go_wp2_with fail
    go_ret
    exact ⟨rfl, hw⟩
  · have HZ := Lib.hid hz
    have t1 : (linesFault l == 0) = false := by simp [hz]
    have HJ : Hid (joinR l = ByteArray.empty) := if_neg hz
    clear hz
    go_enter Tryd.func4, Tryd.ntmps4
    go_wp2_with fail
    refine (refLines_any l _ _ hl).mono ?_
    rintro e w1 ⟨rfl, hw⟩
    go_wp2_with fail
    refine (check_any l _ _ (hl.never hw)).mono ?_
    rintro e w2 ⟨rfl, rfl⟩
    go_wp2_with fail
    refine (error_any _ _ _ (hw.cellNever hg)).mono ?_
    rintro e' w' ⟨rfl, hcE⟩
    have hw := hw.trans hcE
    skip
    clear hcE
    rw [beq_self_eq_true]
    go_wp2_with fail
    refine (line_join_any l _ _ (hl.never hw)).mono ?_
    rintro e w4 ⟨rfl, hc4⟩
    have hw := hw.trans hc4
    clear hc4
    rw [HJ.out]
    go_wp2_with fail
    refine (error_any _ _ _ (hw.cellNever hg)).mono ?_
    rintro e' w' ⟨rfl, hcE⟩
    have hw := hw.trans hcE
    skip
    clear hcE
    rw [beq_self_eq_true]
    go_wp2_with fail
    refine (refSplit_any s _ (by omega)).mono ?_
    rintro e w5 ⟨r5, rfl, hc5, hr5⟩
    have hw := hw.trans hc5
    have hr5 := hr5.sub (O' := Never) (fun _ _ h => h.elim)
    clear hc5
    go_wp2_with fail
    refine (line_split_any s _ (by omega) m (hw.cellNever hm)).mono ?_
    rintro e w6 ⟨r6, rfl, hc6, hr6⟩
    have hw := hw.trans hc6
    have hr5 := hr5.never hc6
    have hr6 := hr6.sub (O' := Never) (fun _ _ h => h.elim)
    clear hc6
    go_wp2_with fail
    refine (error_any _ _ _ (hw.cellNever hg)).mono ?_
    rintro e' w' ⟨rfl, hcE⟩
    have hw := hw.trans hcE
    have hr5 := hr5.never hcE; have hr6 := hr6.never hcE
    clear hcE
    rw [beq_self_eq_true]
    go_wp2_with fail
    refine (texts_any _ _ _ _ _ hr6 hr5).mono ?_
    rintro e w7 ⟨rfl, hc7⟩
    have hw := hw.trans hc7
    rw [decide_eq_true rfl]
    clear hc7 hr6 hr5
    go_wp2_with fail
    refine (line_path_any p _ m (hw.cellNever hm)).mono ?_
    rintro e w8 ⟨rfl, hc8⟩
    have hw := hw.trans hc8
    clear hc8
    go_wp2_with fail
    refine (refPath_any p _).mono ?_
    rintro e w9 ⟨rfl, hc9⟩
    have hw := hw.trans hc9
    clear hc9
    go_wp2_with fail
    refine (error_any _ _ _ (hw.cellNever hg)).mono ?_
    rintro e' w' ⟨rfl, hcE⟩
    have hw := hw.trans hcE
    skip
    clear hcE
    rw [beq_self_eq_true]
    go_wp2_with fail
    go_ret
    exact ⟨rfl, hw⟩
end Go.Proofs.YtpoammapjmddfaaDoor
