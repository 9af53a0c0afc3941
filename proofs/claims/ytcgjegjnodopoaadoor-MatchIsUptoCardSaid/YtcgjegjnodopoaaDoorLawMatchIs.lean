/-
  THE LAW MatchIs, walked.
-/
import Derived.Test.YtcgjegjnodopoaaDoorRefMatch
import Derived.Test.YtcgjegjnodopoaaDoorSliceG
import Derived.Test.YtcgjegjnodopoaaDoorAs
namespace Go.Proofs.YtcgjegjnodopoaaDoor
open Go.RowKit

theorem size_int (w : World) : (sizeOf (Tryd.prog.elem 37)).run Tryd.prog w = .ok 1 w := by kernel_rfl
set_option maxHeartbeats 8000000 in
set_option maxRecDepth 100000 in
theorem law_matchIs (c : List (List Int)) (m : List Int) (vc vm : Value) (w : World) (hcv : Rdv w Never vc c) (hmv : Rdv w Never vm m) (hg : w.cell? ⟨0, 0, none⟩ = some errT) :
    Calls Tryd.prog 5 #[vc, vm] w fun e w' => e = .returned (.bool true) ∧ Chg Never w w' := by
  obtain ⟨a, cap, rfl, h1, h2, h3⟩ := rdv_slice hcv
  obtain ⟨a', cap', rfl, g1, g2, g3⟩ := rdv_slice hmv
  unfold maxLen at h2 g2
  by_cases hz : sqFault c = 0
  · obtain ⟨hn, hq⟩ := sq_bd hz
    have HZ := Lib.hid hz
    have HO : Hid (matchOut c = matchR c) := if_pos hz
    by_cases h6 : 6 < c.length
    · clear hz
      go_enter Tryd.func5, Tryd.ntmps5
      go_wp2_with fail
      refine (refSquare_any c _ _ hcv).mono ?_
      rintro e w1 ⟨rfl, rfl⟩
      rw [HZ.out]
      go_wp2_with fail
      go_ret
      exact ⟨rfl, Chg.refl _ _⟩
    · clear hz
      go_enter Tryd.func5, Tryd.ntmps5
      go_wp2_with fail
      refine (refSquare_any c _ _ hcv).mono ?_
      rintro e w1 ⟨rfl, rfl⟩
      rw [HZ.out]
      go_wp2_with fail
      refine (matchOf_any c _ _ hcv HZ.out).mono ?_
      rintro e w1 ⟨r1, rfl, hw, hr1⟩
      have hr1 := hr1.sub (O' := Never) (fun _ _ h => h.elim)
      go_wp2_with fail
      refine (match_any c _ _ (hcv.never hw)).mono ?_
      rintro e w2 ⟨r2, rfl, hc2, hr2⟩
      have hr2 := hr2.sub (O' := Never) (fun _ _ h => h.elim)
      rw [HO.out] at hr2
      have hr1 := hr1.never hc2
      have hw := hw.trans hc2
      clear hc2
      rw [HZ.out]
      go_wp2_with fail
      refine (error_any _ _ _ (hw.cellNever hg)).mono ?_
      rintro e' w' ⟨rfl, hcE⟩
      have hw := hw.trans hcE
      have hr1 := hr1.never hcE; have hr2 := hr2.never hcE
      clear hcE
      rw [beq_self_eq_true]
      go_wp2_with fail
      refine (ints_any _ _ _ _ _ hr2 hr1).mono ?_
      rintro e w4 ⟨rfl, hc4⟩
      have hw := hw.trans hc4
      clear hc4 hr1 hr2
      rw [decide_eq_true rfl]
      by_cases hl : m.length = c.length
      · have t1 : ((m.length : Int) != c.length) = false := by simp [hl]
        have HL := Lib.hid hl
        clear hl
        go_wp2_with fail
        go_loopw [5, 11, 12] (fun e sm i wr => ∃ (S : Int) (k : Nat), e = .int .i64 0 ∧ sm = .int .i64 S ∧ i = .int .i64 k ∧ k ≤ m.length ∧ 0 ≤ S ∧ S ≤ 100000 * k ∧ Chg Never w wr ∧ Hid (costGo c.length (c.drop k) (m.drop k) (m.take k) S = costGo c.length c m [] 0)) (fun _ _ i _ => m.length - (intOf i).toNat)
        case atStart => exact ⟨0, 0, rfl, rfl, rfl, Nat.zero_le _, Int.le_refl _, Int.le_refl _, hw, rfl⟩
        case round =>
          clear hw
          obtain ⟨S, k, rfl, rfl, rfl, hk, hS0, hS1, hw, hR⟩ := hrel
          by_cases hlt : k < m.length
          · obtain ⟨y, hy⟩ : ∃ y, m[k]? = some y := ⟨m[k], by simp [hlt]⟩
            obtain ⟨x, hx⟩ : ∃ x, c[k]? = some x := ⟨c[k]'(by rw [← HL.out]; exact hlt), by simp [HL.out ▸ hlt]⟩
            have hxl : x.length = c.length := (hq x (List.mem_of_getElem? hx)).1
            obtain ⟨b, off, rfl, _, hcy, hyi⟩ := elems_ints g3 hy
            obtain ⟨b', off', xv, rfl, _, _, hcx, hxr⟩ := elems_row h3 hx
            obtain ⟨ax, capx, rfl, x1, x2, x3⟩ := rdv_slice hxr
            unfold maxLen at x2
            have hcx := hw.cellNever hcx
            have hcy := hw.cellNever hcy
            obtain ⟨sb, z0, z1, hrunS, hsub⟩ := slice_g (P := Tryd.prog) (t := 37) (by kernel_rfl) size_int (hmv.never hw) 0 k (Nat.zero_le _) (by omega)
            have hrunS := fun (wx : World) => hrunS (k : Nat) wx rfl rfl
            rw [List.drop_zero, Nat.sub_zero, Nat.sub_zero] at hsub
            rw [Nat.sub_zero, Nat.sub_zero] at hrunS
            clear z0 z1 h3 g3 hxr
            have hkl : (k : Int) < (c.length : Int) := by have := HL.out; omega
            have hkm : (k : Int) < (m.length : Int) := by omega
            have HX := Lib.hid hxl
            have HD := Lib.hid (drop_eq hx)
            have HM := Lib.hid (drop_eq hy)
            have HY := Lib.hid hy
            have HXX := Lib.hid hx
            clear hx hy hxl
            by_cases y0 : y < 0
            · have HK : Hid (costR c m = (0, 2)) := by
                have e := hR.out
                rw [HD.out, HM.out, costGo, if_pos (.inl y0)] at e
                unfold Hid costR
                rw [if_neg (by simp [HZ.out]), if_neg (by simp [HL.out]), ← e]
              clear hR
              clear hsub hrunS
              go_wp2_with fail
              go_quiet (fail)
              have hw := hw.drewN nq
              go_wp2_with fail
              refine (cost_any c m _ _ _ (hcv.never hw) (hmv.never hw)).mono ?_
              rintro e w7 ⟨rfl, hc7⟩
              have hw := hw.trans hc7
              clear hc7
              rw [HK.out]
              go_wp2_with fail
              refine (error_any _ _ _ (hw.cellNever hg)).mono ?_
              rintro e' w' ⟨rfl, hcE⟩
              have hw := hw.trans hcE
              skip
              clear hcE
              rw [beq_self_eq_true]
              go_wp2_with fail
              go_ret
              exact ⟨rfl, hw⟩
            · have y0b : decide (y < 0) = false := decide_eq_false y0
              by_cases y1 : (m.length : Int) ≤ y
              · have y1b : decide ((m.length : Int) ≤ y) = true := decide_eq_true y1
                have HK : Hid (costR c m = (0, 2)) := by
                  have e := hR.out
                  rw [HD.out, HM.out, costGo, if_pos (.inr (.inl (by have := HL.out; omega)))] at e
                  unfold Hid costR
                  rw [if_neg (by simp [HZ.out]), if_neg (by simp [HL.out]), ← e]
                clear hR
                clear hsub hrunS
                go_wp2_with fail
                go_quiet (fail)
                have hw := hw.drewN nq
                go_wp2_with fail
                refine (cost_any c m _ _ _ (hcv.never hw) (hmv.never hw)).mono ?_
                rintro e w7 ⟨rfl, hc7⟩
                have hw := hw.trans hc7
                clear hc7
                rw [HK.out]
                go_wp2_with fail
                refine (error_any _ _ _ (hw.cellNever hg)).mono ?_
                rintro e' w' ⟨rfl, hcE⟩
                have hw := hw.trans hcE
                skip
                clear hcE
                rw [beq_self_eq_true]
                go_wp2_with fail
                go_ret
                exact ⟨rfl, hw⟩
              · have y1b : decide ((m.length : Int) ≤ y) = false := decide_eq_false y1
                by_cases y2 : y ∈ m.take k
                · have hd : decide (y ∈ m.take k) = true := decide_eq_true y2
                  have HK : Hid (costR c m = (0, 2)) := by
                    have e := hR.out
                    rw [HD.out, HM.out, costGo, if_pos (.inr (.inr y2))] at e
                    unfold Hid costR
                    rw [if_neg (by simp [HZ.out]), if_neg (by simp [HL.out]), ← e]
                  clear hR
                  clear y2
                  go_wp2_with fail
                  go_quiet (first | (go_at_call 16; refine Calls.quiet_of_same (has_any (m.take k) _ _ _ (hsub.never ((Chg.refl Never wr).drewN _)))))
                  rw [hd]
                  have hw := hw.drewN nq
                  clear hsub hrunS hd
                  go_wp2_with fail
                  refine (cost_any c m _ _ _ (hcv.never hw) (hmv.never hw)).mono ?_
                  rintro e w7 ⟨rfl, hc7⟩
                  have hw := hw.trans hc7
                  clear hc7
                  rw [HK.out]
                  go_wp2_with fail
                  refine (error_any _ _ _ (hw.cellNever hg)).mono ?_
                  rintro e' w' ⟨rfl, hcE⟩
                  have hw := hw.trans hcE
                  skip
                  clear hcE
                  rw [beq_self_eq_true]
                  go_wp2_with fail
                  go_ret
                  exact ⟨rfl, hw⟩
                · have hd : decide (y ∈ m.take k) = false := decide_eq_false y2
                  obtain ⟨q, rfl⟩ : ∃ q : Nat, y = q := ⟨y.toNat, by omega⟩
                  have hqm : q < m.length := by omega
                  have hqm2 : decide (m.length ≤ q) = false := decide_eq_false (by omega)
                  have hqx : q < x.length := by rw [HX.out]; have := HL.out; omega
                  obtain ⟨z, hz⟩ : ∃ z, x[q]? = some z := ⟨x[q], by simp [hqx]⟩
                  obtain ⟨b2, off2, rfl, _, hcz, hzi⟩ := elems_ints x3 hz
                  have hcz := hw.cellNever hcz
                  have hzb := (hq x (List.mem_of_getElem? HXX.out)).2 z (List.mem_of_getElem? hz)
                  have hzd : Hid (x.getD q 0 = z) := by rw [Hid, List.getD_eq_getElem?_getD, hz]; rfl
                  have HR2 : Hid (costGo c.length (c.drop (k + 1)) (m.drop (k + 1)) (m.take (k + 1)) (S + z) = costGo c.length c m [] 0) := by
                    have e := hR.out
                    rw [HD.out, HM.out, costGo, if_neg (by have := HL.out; rintro (r | r | r)
                                                           · exact y0 r
                                                           · omega
                                                           · exact y2 r)] at e
                    rw [Hid, List.take_add_one, HY.out]
                    rw [show ((q : Int)).toNat = q from rfl, hzd.out] at e
                    exact e
                  have hsum : wrap64 (S + z) = S + z := by unfold wrap64; omega
                  clear x3 hz hR y2
                  go_wp2_with fail
                  go_quiet (first | (go_at_call 16; refine Calls.quiet_of_same (has_any (m.take k) _ _ _ (hsub.never ((Chg.refl Never wr).drewN _)))))
                  rw [hd]
                  clear hsub hrunS hd
                  go_wp2_with fail
                  go_quiet (fail)
                  go_wp2_with fail
                  go_roundw
                  case rel => exact ⟨S + z, k + 1, rfl, rfl, by go_num, by omega, by omega, by omega, hw.drewN _, HR2⟩
                  case measure => simp [intOf]; omega
          · have e := hR.out
            rw [List.drop_eq_nil_of_le (show c.length ≤ k by have := HL.out; omega), List.drop_eq_nil_of_le (show m.length ≤ k by omega), costGo] at e
            have HK : Hid (costR c m = (S, 0)) := by
              unfold Hid costR
              rw [if_neg (by simp [HZ.out]), if_neg (by simp [HL.out]), ← e]
            clear hR e
            go_wp2_with fail
            refine (cost_any c m _ _ _ (hcv.never hw) (hmv.never hw)).mono ?_
            rintro e w7 ⟨rfl, hc7⟩
            have hw := hw.trans hc7
            clear hc7
            rw [HK.out]
            go_wp2_with fail
            refine (error_any _ _ _ (hw.cellNever hg)).mono ?_
            rintro e' w' ⟨rfl, hcE⟩
            have hw := hw.trans hcE
            skip
            clear hcE
            rw [beq_self_eq_true]
            go_wp2_with fail
            go_ret
            exact ⟨rfl, hw⟩
      · have t1 : ((m.length : Int) != c.length) = true := by simp; omega
        have HK : Hid (costR c m = (0, 2)) := by unfold Hid costR; rw [if_neg (by simp [HZ.out]), if_pos hl]
        clear hl
        go_wp2_with fail
        go_loopw [5, 11, 12] (fun e sm i wr => e = .int .i64 2 ∧ sm = .int .i64 0 ∧ i = .int .i64 0 ∧ wr = w4) (fun _ _ i _ => 0)
        case atStart => exact ⟨rfl, rfl, rfl, rfl⟩
        case round =>
          obtain ⟨rfl, rfl, rfl, rfl⟩ := hrel
          by_cases hm0 : 0 < m.length
          · go_wp2_with fail
            refine (cost_any c m _ _ _ (hcv.never hw) (hmv.never hw)).mono ?_
            rintro e w7 ⟨rfl, hc7⟩
            have hw := hw.trans hc7
            clear hc7
            rw [HK.out]
            go_wp2_with fail
            refine (error_any _ _ _ (hw.cellNever hg)).mono ?_
            rintro e' w' ⟨rfl, hcE⟩
            have hw := hw.trans hcE
            skip
            clear hcE
            rw [beq_self_eq_true]
            go_wp2_with fail
            go_ret
            exact ⟨rfl, hw⟩
          · go_wp2_with fail
            refine (cost_any c m _ _ _ (hcv.never hw) (hmv.never hw)).mono ?_
            rintro e w7 ⟨rfl, hc7⟩
            have hw := hw.trans hc7
            clear hc7
            rw [HK.out]
            go_wp2_with fail
            refine (error_any _ _ _ (hw.cellNever hg)).mono ?_
            rintro e' w' ⟨rfl, hcE⟩
            have hw := hw.trans hcE
            skip
            clear hcE
            rw [beq_self_eq_true]
            go_wp2_with fail
            go_ret
            exact ⟨rfl, hw⟩
  · have HO : Hid (matchOut c = []) := if_neg hz
    have HK : Hid (costR c m = (0, sqFault c)) := by unfold Hid costR; rw [if_pos hz]
    have t0 : (sqFault c == 0) = false := by simp [hz]
    clear hz
    go_enter Tryd.func5, Tryd.ntmps5
    go_wp2_with fail
    refine (refSquare_any c _ _ hcv).mono ?_
    rintro e w1 ⟨rfl, rfl⟩
    go_wp2_with fail
    refine (match_any c _ _ hcv).mono ?_
    rintro e w2 ⟨r2, rfl, hw, hr2⟩
    have hr2 := hr2.sub (O' := Never) (fun _ _ h => h.elim)
    rw [HO.out] at hr2
    go_wp2_with fail
    refine (error_any _ _ _ (hw.cellNever hg)).mono ?_
    rintro e' w' ⟨rfl, hcE⟩
    have hw := hw.trans hcE
    have hr2 := hr2.never hcE
    clear hcE
    rw [beq_self_eq_true]
    go_wp2_with fail
    refine (ints_any [] [] _ _ _ hr2 (rdv_nil _ _)).mono ?_
    rintro e w4 ⟨rfl, hc4⟩
    have hw := hw.trans hc4
    clear hc4 hr2
    rw [decide_eq_true rfl]
    go_wp2_with fail
    go_loopw [5, 11, 12] (fun e sm i wr => e = .int .i64 (sqFault c) ∧ sm = .int .i64 0 ∧ i = .int .i64 0 ∧ wr = w4) (fun _ _ i _ => 0)
    case atStart => exact ⟨rfl, rfl, rfl, rfl⟩
    case round =>
      obtain ⟨rfl, rfl, rfl, rfl⟩ := hrel
      by_cases hm0 : 0 < m.length
      · go_wp2_with fail
        refine (cost_any c m _ _ _ (hcv.never hw) (hmv.never hw)).mono ?_
        rintro e w7 ⟨rfl, hc7⟩
        have hw := hw.trans hc7
        clear hc7
        rw [HK.out]
        go_wp2_with fail
        refine (error_any _ _ _ (hw.cellNever hg)).mono ?_
        rintro e' w' ⟨rfl, hcE⟩
        have hw := hw.trans hcE
        skip
        clear hcE
        rw [beq_self_eq_true]
        go_wp2_with fail
        go_ret
        exact ⟨rfl, hw⟩
      · go_wp2_with fail
        refine (cost_any c m _ _ _ (hcv.never hw) (hmv.never hw)).mono ?_
        rintro e w7 ⟨rfl, hc7⟩
        have hw := hw.trans hc7
        clear hc7
        rw [HK.out]
        go_wp2_with fail
        refine (error_any _ _ _ (hw.cellNever hg)).mono ?_
        rintro e' w' ⟨rfl, hcE⟩
        have hw := hw.trans hcE
        skip
        clear hcE
        rw [beq_self_eq_true]
        go_wp2_with fail
        go_ret
        exact ⟨rfl, hw⟩
end Go.Proofs.YtcgjegjnodopoaaDoor
