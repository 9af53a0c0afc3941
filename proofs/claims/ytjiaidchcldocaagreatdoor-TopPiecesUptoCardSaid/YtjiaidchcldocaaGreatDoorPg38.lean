/-
  PARTS: THE LAW TopThree, walked.
-/
import Derived.Test.YtjiaidchcldocaaGreatDoorPg37
import Derived.Test.YtjiaidchcldocaaGreatDoorPg20
import Derived.Test.YtjiaidchcldocaaGreatDoorPg23
import Derived.Test.YtjiaidchcldocaaGreatDoorPg36
set_option linter.unusedVariables false
set_option linter.unusedSimpArgs false
namespace Go.Proofs.YtjiaidchcldocaaGreatDoor
open Go.RowKit

/-- a patch that may be, printed and parsed -/
theorem print_parses {p : List Change} (h : Patch p) : gitR p = toB (textG p) ∧ (textG p).length ≤ 400000 ∧ parseG (toB (textG p)).data.toList = (p, 0) := by
  have hz : (patchFault p).2 = 0 := by rw [patch_ok h]
  refine ⟨if_pos hz, ?_, by rw [toB_data]; exact git_back hz⟩
  have := (changes_ok p h.2.1).2
  have := h.1
  omega
set_option maxHeartbeats 4000000 in
set_option maxRecDepth 100000 in
theorem law_topThree (a b c : List File) (n k : Int) (va vb vc : Value) (w : World) (ha : Rdv w Never va a) (hb : Rdv w Never vb b) (hc : Rdv w Never vc c) (hn : I64 n) (hk : I64 k) (m : Int) (hm : w.cell? ⟨1, 0, none⟩ = some (.int .i64 m)) (hg : Globs w m) :
    Calls Tryz.prog 6 #[va, vb, vc, .int .i64 n, .int .i64 k] w fun e w' => e = .returned (.bool true) ∧ Chg Never w w' := by
  go_enter Tryz.func6, Tryz.ntmps6
  go_wp2_with fail
  refine (top_one _ m hg).mono ?_
  rintro e w1 ⟨rfl, hw⟩
  go_wp2_with fail
  refine (diff_any a b n _ _ _ (ha.never hw) (hb.never hw) hn m (hw.cellNever hm)).mono ?_
  rintro e w2 ⟨rp, rfl, hc2, hrp⟩
  have hw := hw.trans hc2
  clear hc2
  go_wp2_with fail
  refine (diff_any b c n _ _ _ (hb.never hw) (hc.never hw) hn m (hw.cellNever hm)).mono ?_
  rintro e w3 ⟨rq, rfl, hc3, hrq⟩
  have hw := hw.trans hc3
  have hrp := hrp.never hc3
  clear hc3
  go_wp2_with fail
  refine (diff_any a c k _ _ _ (ha.never hw) (hc.never hw) hk m (hw.cellNever hm)).mono ?_
  rintro e w4 ⟨rr, rfl, hc4, hrr⟩
  have hw := hw.trans hc4
  have hrp := hrp.never hc4
  have hrq := hrq.never hc4
  clear hc4
  by_cases z1 : diffFault a b n = 0
  · by_cases z2 : diffFault b c n = 0
    · by_cases z3 : diffFault a c k = 0
      · obtain ⟨q1, q2, q3, q4⟩ := diffFault_zero z1
        obtain ⟨_, q6, _, _⟩ := diffFault_zero z2
        obtain ⟨_, _, q7, q8⟩ := diffFault_zero z3
        have TA := Lib.hid (tree_iff.2 q1)
        have TB := Lib.hid (tree_iff.2 q2)
        have TC := Lib.hid (tree_iff.2 q6)
        have M1 := diff_makes TA.out TB.out q3 q4
        have M2 := diff_makes TB.out TC.out q3 q4
        have M3 := diff_makes TA.out TC.out q7 q8
        have M4 := diff_makes TB.out TC.out q7 q8
        have PY := print_parses (diff_leads TB.out TC.out q7 q8).1
        have PZ : (patchFault (diffL k b c)).2 = 0 := by rw [patch_ok (diff_leads TB.out TC.out q7 q8).1]
        have e1 : (applyR a (diffL n a b)).2.2 = 0 := by rw [M1.1]
        have e2 : (applyR a (diffL n a b)).1 = b := by rw [M1.1]
        have e3 : (applyR (applyR a (diffL n a b)).1 (diffL n b c)).2.2 = 0 := by rw [e2, M2.1]
        have e4 : (applyR (applyR a (diffL n a b)).1 (diffL n b c)).1 = c := by rw [e2, M2.1]
        have e5 : (applyR a (diffL k a c)).2.2 = 0 := by rw [M3.1]
        have e6 : (applyR a (diffL k a c)).1 = c := by rw [M3.1]
        have zbc : diffFault b c k = 0 := diffFault_0 q2 q6 q7 q8
        have HJ : Hid (joinFt a (diffL n a b) (diffL n b c) k = 0 ∧ joinRt a (diffL n a b) (diffL n b c) k = diffL k a c) := by
          obtain ⟨j1, j2⟩ := @joinFt_ok a (diffL n a b) (diffL n b c) k e1 e3
          rw [Hid, j1, j2, e4, z3, diffR_ok z3]
          exact ⟨rfl, rfl⟩
        have HI : Hid (interF a (diffL n a b) (diffL k a c) k = 0 ∧ interR a (diffL n a b) (diffL k a c) k = diffL k b c) := by
          obtain ⟨j1, j2⟩ := @inter_ok a (diffL n a b) (diffL k a c) k e1 e5
          rw [Hid, j1, j2, e2, e6, zbc, diffR_ok zbc]
          exact ⟨rfl, rfl⟩
        have M4 := Lib.hid M4.1
        have PY := Lib.hid PY
        have PZ := Lib.hid PZ
        rw [diffR_ok z1] at hrp
        rw [diffR_ok z2] at hrq
        rw [diffR_ok z3] at hrr
        rw [z1, z2, z3, errV_zero]
        clear z1 z2 z3 q1 q2 q3 q4 q6 q7 q8 M1 M2 M3 e1 e2 e3 e4 e5 e6 zbc
        generalize diffL n a b = p at hrp HJ HI
        generalize diffL n b c = q at hrq HJ
        generalize diffL k a c = r at hrr HJ HI
        generalize diffL k b c = y at HI M4 PY PZ
        obtain ⟨pa, pc, rfl, _, _, _⟩ := rdv_slice hrp
        obtain ⟨qa, qc, rfl, _, _, _⟩ := rdv_slice hrq
        obtain ⟨ra, rc, rfl, _, _, _⟩ := rdv_slice hrr
        go_wp2_with fail
        refine (alg_join_any a p q k _ _ _ _ (ha.never hw) hrp hrq hk m (hw.cellNever hm)).mono ?_
        rintro e w5 ⟨rx, rfl, hc5, hrx⟩
        have hw := hw.trans hc5
        have hrp := hrp.never hc5
        have hrr := hrr.never hc5
        rw [HJ.out.1, errV_zero]
        rw [HJ.out.2] at hrx
        clear hc5 hrq
        obtain ⟨xa, xc, rfl, _, _, _⟩ := rdv_slice hrx
        go_wp2_with fail
        refine (alg_inter_any a p r k _ _ _ _ (ha.never hw) hrp hrr hk m (hw.cellNever hm)).mono ?_
        rintro e w6 ⟨ry, rfl, hc6, hry⟩
        have hw := hw.trans hc6
        have hrr := hrr.never hc6
        have hrx := hrx.never hc6
        rw [HI.out.1, errV_zero]
        rw [HI.out.2] at hry
        clear hc6 hrp
        obtain ⟨ya, yc, rfl, _, _, _⟩ := rdv_slice hry
        go_wp2_with fail
        refine (patches_any r r _ _ _ hrx hrr).mono ?_
        rintro e w7 ⟨rfl, hc7⟩
        have hw := hw.trans hc7
        have hry := hry.never hc7
        rw [decide_eq_true rfl]
        clear hc7 hrx hrr
        go_wp2_with fail
        refine (gitprint_any y _ _ hry m (hw.cellNever hm)).mono ?_
        rintro e w8 ⟨rfl, hc8⟩
        have hw := hw.trans hc8
        rw [PZ.out, errV_zero, PY.out.1]
        clear hc8 hry
        go_wp2_with fail
        refine (gitparse_any (toB (textG y)) _ (by rw [toB_size']; have := PY.out.2.1; omega) m (hg.never hw)).mono ?_
        rintro e w9 ⟨rz, rfl, hc9, hrz⟩
        have hw := hw.trans hc9
        rw [PY.out.2.2, errV_zero]
        rw [PY.out.2.2] at hrz
        clear hc9
        obtain ⟨za, zc, rfl, _, _, _⟩ := rdv_slice hrz
        go_wp2_with fail
        refine (apply_any b y _ _ _ (hb.never hw) hrz m (hw.cellNever hm)).mono ?_
        rintro e wA ⟨rt, rfl, hcA, hrt⟩
        have hw := hw.trans hcA
        rw [M4.out, errV_zero]
        rw [M4.out] at hrt
        clear hcA hrz
        obtain ⟨ta, tc, rfl, _, _, _⟩ := rdv_slice hrt
        go_wp2_with fail
        refine (trees_any c c _ _ _ hrt (hc.never hw)).mono ?_
        rintro e wB ⟨rfl, hcB⟩
        have hw := hw.trans hcB
        rw [decide_eq_true rfl]
        clear hcB hrt
        go_wp2_with fail
        go_ret
        exact ⟨rfl, hw⟩
      · rw [z1, z2, errV_zero, errV_pos z3]
        clear z1 z2 z3 hrp hrq hrr
        go_wp2_with fail
        go_ret
        exact ⟨rfl, hw⟩
    · rw [z1, errV_zero, errV_pos z2]
      clear z1 z2 hrp hrq hrr
      go_wp2_with fail
      go_ret
      exact ⟨rfl, hw⟩
  · rw [errV_pos z1]
    clear z1 hrp hrq hrr
    go_wp2_with fail
    go_ret
    exact ⟨rfl, hw⟩
end Go.Proofs.YtjiaidchcldocaaGreatDoor
