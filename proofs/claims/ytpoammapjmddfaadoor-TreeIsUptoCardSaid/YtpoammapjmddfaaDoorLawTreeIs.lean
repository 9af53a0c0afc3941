/-
  THE LAW TreeIs, walked.
-/
import Derived.Test.YtpoammapjmddfaaDoorTreeH
import Derived.Test.YtpoammapjmddfaaDoorSameTrees
import Derived.Test.YtpoammapjmddfaaDoorAs
import Derived.Deep.Cut
namespace Go.Proofs.YtpoammapjmddfaaDoor
open Go.RowKit

theorem placeI_is {t : List File} (h : Sorted t) {p : ByteArray} (hi : isAt t p = true) : placeI t p = posOf t p := by
  unfold placeI; rw [placeOf_sorted h, if_pos hi]
theorem placeI_not {t : List File} (h : Sorted t) {p : ByteArray} (hi : isAt t p = false) : placeI t p = -1 := by
  unfold placeI; rw [placeOf_sorted h, if_neg (by rw [hi]; decide)]
theorem placeI_neg {t : List File} (h : Sorted t) (p : ByteArray) : placeI t p < 0 ↔ isAt t p = false := by
  cases hi : isAt t p with
  | true => rw [placeI_is h hi]; simp
  | false => rw [placeI_not h hi]; simp
theorem atFault_sorted {t : List File} {p : ByteArray} (h : atFault t p = 0) : Sorted t := (treeFault_zero (atFault_zero h).1).2.2.1
theorem getFault_none {t : List File} {p : ByteArray} (h : atFault t p = 0 ∧ placeI t p < 0) : getFault t p = 4 := by
  unfold getFault; rw [if_pos h.1, if_neg (by rw [(placeI_neg (atFault_sorted h.1) p).1 h.2]; decide)]
theorem getFault_else {t : List File} {p : ByteArray} (h : ¬ (atFault t p = 0 ∧ placeI t p < 0)) : getFault t p = atFault t p := by
  unfold getFault
  by_cases e : atFault t p = 0
  · have hi : isAt t p = true := by
      cases hi : isAt t p with
      | true => rfl
      | false => exact absurd ⟨e, (placeI_neg (atFault_sorted e) p).2 hi⟩ h
    rw [if_pos e, if_pos hi, e]
  · rw [if_neg e]
def put2Fault (t : List File) (f : File) : Int := if atFault t f.path = 0 then linesFault f.lines else atFault t f.path
theorem putFault_full {t : List File} {f : File} (h : put2Fault t f = 0 ∧ placeI t f.path < 0 ∧ 8 ≤ t.length) : putFault t f = 3 := by
  unfold put2Fault at h
  by_cases e : atFault t f.path = 0
  · rw [if_pos e] at h
    have := (treeFault_zero (atFault_zero e).1).1
    unfold putFault
    rw [if_pos e, if_pos h.1, if_pos ⟨(placeI_neg (atFault_sorted e) _).1 h.2.1, by omega⟩]
  · rw [if_neg e] at h; exact absurd h.1 e
theorem putFault_else {t : List File} {f : File} (h : ¬ (put2Fault t f = 0 ∧ placeI t f.path < 0 ∧ 8 ≤ t.length)) : putFault t f = put2Fault t f := by
  unfold putFault put2Fault at *
  by_cases e : atFault t f.path = 0
  · rw [if_pos e] at h ⊢
    rw [if_pos e]
    by_cases el : linesFault f.lines = 0
    · rw [if_pos el, if_neg, el]
      rintro ⟨g1, g2⟩
      exact h ⟨el, (placeI_neg (atFault_sorted e) _).2 g1, by omega⟩
    · rw [if_neg el]
  · rw [if_neg e, if_neg e]
theorem putFault_zero {t : List File} {f : File} (h : putFault t f = 0) : atFault t f.path = 0 := by
  unfold putFault at h
  by_cases e : atFault t f.path = 0
  · exact e
  · rw [if_neg e] at h; exact absurd h e
theorem getFault_zero {t : List File} {p : ByteArray} (h : getFault t p = 0) : atFault t p = 0 ∧ isAt t p = true := by
  unfold getFault at h
  by_cases e : atFault t p = 0
  · rw [if_pos e] at h
    by_cases i : isAt t p = true
    · exact ⟨e, i⟩
    · rw [if_neg i] at h; cases h
  · rw [if_neg e] at h; exact absurd h e

set_option maxHeartbeats 4000000 in
set_option maxRecDepth 100000 in
theorem law_treeIs (t : List File) (p : ByteArray) (f : File) (vt fv : Value) (w : World) (ht : Rdv w Never vt t) (_hp : p.size ≤ 1048576) (hf : Rdv w Never fv f.lines) (hfp : f.path.size ≤ maxLen) (m : Int) (hm : w.cell? ⟨1, 0, none⟩ = some (.int .i64 m)) (hg : w.cell? ⟨0, 0, none⟩ = some errT) :
    Calls Tryd.prog 6 #[vt, .string p, .agg #[.string f.path, fv]] w fun e w' => e = .returned (.bool true) ∧ Chg Never w w' := by
  obtain ⟨fa, fcap, rfl, _, _, _⟩ := rdv_slice hf
  obtain ⟨ta, tcap, rfl, t1, t2, _⟩ := rdv_slice ht
  unfold maxLen at t2
  have hA : Chg Never w (w.alloc (.cells #[.string f.path, .slice fa f.lines.length fcap] 50)) := (Chg.refl Never w).alloc _
  have b0 : (w.alloc (.cells #[.string f.path, .slice fa f.lines.length fcap] 50)).cell? ⟨w.heap.size, 0, none⟩ = some (.string f.path) := by simp only [World.cell?]; rw [heap_alloc_new]; rfl
  have b1 : (w.alloc (.cells #[.string f.path, .slice fa f.lines.length fcap] 50)).cell? ⟨w.heap.size, 1, none⟩ = some (.slice fa f.lines.length fcap) := by simp only [World.cell?]; rw [heap_alloc_new]; rfl
  go_enter Tryd.func6, Tryd.ntmps6
  go_wp2_with fail
  generalize w.alloc (.cells #[.string f.path, .slice fa f.lines.length fcap] 50) = wA at hA b0 b1 ⊢
  generalize w.heap.size = B at b0 b1 ⊢
  have ht := ht.never hA
  have hf := hf.never hA
  have hm := hA.cellNever hm
  have hg := hA.cellNever hg
  have HAA := Lib.hid hA
  have HB0 := Lib.hid b0
  have HB1 := Lib.hid b1
  clear hA b0 b1
  refine (refTree_any t _ _ ht).mono ?_
  rintro e w1 ⟨rfl, hw⟩
  go_wp2_with fail
  refine (tree_check_any t _ _ (ht.never hw) m (hw.cellNever hm)).mono ?_
  rintro e w2 ⟨rfl, hc2⟩
  have hw := hw.trans hc2
  clear hc2
  go_wp2_with fail
  refine (error_any _ _ _ (hw.cellNever hg)).mono ?_
  rintro e' w' ⟨rfl, hcE⟩
  have hw := hw.trans hcE
  skip
  clear hcE
  rw [beq_self_eq_true]
  go_upto_if 47 with fail
  go_cut [8] from 47 (fun e wx => e = .int .i64 (atFault t p) ∧ Hid (Chg Never wA wx))
  case first =>
    by_cases z : (treeFault t).2 = 0
    · have z0 : ((treeFault t).2 == 0) = true := by simp [z]
      have HT : Hid (atFault t p = pathFault p) := if_pos z
      clear z
      go_wp2_with fail
      refine (refPath_any p _).mono ?_
      rintro e w3 ⟨rfl, hc3⟩
      go_wp2_with fail
      go_meet
      case rel => exact ⟨by rw [HT.out], hw.trans hc3⟩
    · have z0 : ((treeFault t).2 == 0) = false := by simp [z]
      have HT : Hid (atFault t p = (treeFault t).2) := if_neg z
      clear z
      go_wp2_with fail
      go_meet
      case rel => exact ⟨by rw [HT.out], hw⟩
  case rest =>
    clear hw
    obtain ⟨rfl, hw⟩ := hcut
    have hw := hw.out
    go_wp2_with fail
    refine (refPlace_any t p _ _ (ht.never hw)).mono ?_
    rintro e w4 ⟨rfl, hc4⟩
    have hw := hw.trans hc4
    clear hc4
    go_upto_region 10 with fail
    go_cut [58] from 53 (fun tb wx => (∃ B : Bool, tb = .bool B ∧ Hid (B = decide (atFault t p = 0 ∧ placeI t p < 0))) ∧ Hid (Chg Never wA wx))
    case first =>
      by_cases z : atFault t p = 0
      · have z0 : (atFault t p == 0) = true := by simp [z]
        have Z := Lib.hid z
        clear z
        by_cases y : placeI t p < 0
        · have y0 := decide_eq_true y
          go_wp2_with fail
          go_meet
          case rel => exact ⟨⟨_, rfl, (decide_eq_true (show _ ∧ _ from ⟨Z.out, y⟩)).symm⟩, hw⟩
        · have y0 := decide_eq_false y
          have Y := Lib.hid y
          clear y
          go_wp2_with fail
          go_meet
          case rel => exact ⟨⟨_, rfl, (decide_eq_false (by rintro ⟨_, hh⟩; have := Y.out; omega)).symm⟩, hw⟩
      · have z0 : (atFault t p == 0) = false := by simp [z]
        have Z := Lib.hid z
        clear z
        go_wp2_with fail
        go_meet
        case rel => exact ⟨⟨_, rfl, (decide_eq_false (fun hh => Z.out hh.1)).symm⟩, hw⟩
    case rest =>
      clear hw
      obtain ⟨⟨Bl, rfl, HB⟩, hw⟩ := hcut
      have hw := hw.out
      go_upto_if 58 with fail
      go_cut [8] from 58 (fun e wx => e = .int .i64 (getFault t p) ∧ Hid (Chg Never wA wx))
      case first =>
        cases Bl with
        | true =>
          have HE := Lib.hid (getFault_none (of_decide_eq_true HB.out.symm))
          go_wp2_with fail
          go_meet
          case rel => exact ⟨by rw [HE.out], hw⟩
        | false =>
          have HE := Lib.hid (getFault_else (of_decide_eq_false HB.out.symm))
          go_wp2_with fail
          go_meet
          case rel => exact ⟨by rw [HE.out], hw⟩
      case rest =>
        clear hw HB
        obtain ⟨rfl, hw⟩ := hcut
        have hw := hw.out
        go_upto_if 60 with fail
        go_cut [13, 14, 15] from 48 (fun _ ln ls wx => Rdv wx Never ln (getR t p) ∧ Rdv wx Never ls (dropR t p) ∧ Hid (Chg Never wA wx))
        case first =>
          by_cases z : getFault t p = 0
          · have z0 : (getFault t p == 0) = true := by simp [z]
            have HR1 : Hid (getR t p = linesAt t p) := if_pos z
            have HR2 : Hid (dropR t p = dropAt t (posOf t p)) := if_pos z
            obtain ⟨za, zi⟩ := getFault_zero z
            obtain ⟨x, hx, _⟩ := isAt_get zi
            have HL : Hid (linesAt t p = x.lines) := by unfold Hid linesAt; rw [hx]; rfl
            have hlt := (List.getElem?_eq_some_iff.1 hx).1
            have hl8 := (treeFault_zero (atFault_zero za).1).1
            have HPI := Lib.hid (placeI_is (atFault_sorted za) zi)
            obtain ⟨_, _, hav, _, _, h3⟩ := rdv_slice (ht.never hw)
            simp only [Value.slice.injEq, true_and] at hav
            obtain ⟨rfl, rfl⟩ := hav
            obtain ⟨b, off, lv, rfl, _, _, c0, c1, hps, hlv⟩ := elems_file h3 hx
            clear z za zi hx h3 c0
            rw [HPI.out]
            generalize posOf t p = k at hlt HR2 c1 ⊢
            go_wp2_with fail
            refine (refDrop_any t k _ _ (ht.never hw) hlt (by omega)).mono ?_
            rintro e w5 ⟨r5, rfl, hc5, hr5⟩
            go_wp2_with fail
            go_meet
            case rel => exact ⟨by rw [HR1.out, HL.out]; exact hlv.never hc5, by rw [HR2.out]; exact hr5, hw.trans hc5⟩
          · have z0 : (getFault t p == 0) = false := by simp [z]
            have HR1 : Hid (getR t p = []) := if_neg z
            have HR2 : Hid (dropR t p = []) := if_neg z
            clear z
            go_wp2_with fail
            go_meet
            case rel => exact ⟨by rw [HR1.out]; exact rdv_nil _ _, by rw [HR2.out]; exact rdv_nil _ _, hw⟩
        case rest =>
          clear hw
          obtain ⟨hln, hls, hw⟩ := hcut
          have hw := hw.out
          go_wp2_with fail
          refine (tree_get_any t p _ _ (ht.never hw) m (hw.cellNever hm)).mono ?_
          rintro e w6 ⟨r6, rfl, hc6, hr6⟩
          have hw := hw.trans hc6
          have hln := hln.never hc6
          have hls := hls.never hc6
          have hr6 := hr6.sub (O' := Never) (fun _ _ h => h.elim)
          clear hc6
          go_wp2_with fail
          refine (error_any _ _ _ (hw.cellNever hg)).mono ?_
          rintro e' w' ⟨rfl, hcE⟩
          have hw := hw.trans hcE
          have hln := hln.never hcE; have hls := hls.never hcE; have hr6 := hr6.never hcE
          clear hcE
          rw [beq_self_eq_true]
          go_wp2_with fail
          refine (texts_any _ _ _ _ _ hr6 hln).mono ?_
          rintro e w7 ⟨rfl, hc7⟩
          have hw := hw.trans hc7
          have hls := hls.never hc7
          rw [decide_eq_true rfl]
          clear hc7 hr6 hln
          go_wp2_with fail
          refine (tree_drop_any t p _ _ (ht.never hw) m (hw.cellNever hm)).mono ?_
          rintro e w8 ⟨r8, rfl, hc8, hr8⟩
          have hw := hw.trans hc8
          have hls := hls.never hc8
          have hr8 := hr8.sub (O' := Never) (fun _ _ h => h.elim)
          clear hc8
          go_wp2_with fail
          refine (error_any _ _ _ (hw.cellNever hg)).mono ?_
          rintro e' w' ⟨rfl, hcE⟩
          have hw := hw.trans hcE
          have hls := hls.never hcE; have hr8 := hr8.never hcE
          clear hcE
          rw [beq_self_eq_true]
          go_wp2_with fail
          refine (trees_any _ _ _ _ _ hr8 hls).mono ?_
          rintro e w9 ⟨rfl, hc9⟩
          have hw := hw.trans hc9
          rw [decide_eq_true rfl]
          clear hc9 hr8 hls
          have b0 := hw.cellNever HB0.out
          have b1 := hw.cellNever HB1.out
          go_upto_if 109 with fail
          go_cut [8] from 109 (fun e wx => e = .int .i64 (atFault t f.path) ∧ Hid (Chg Never wA wx))
          case first =>
            by_cases z : (treeFault t).2 = 0
            · have z0 : ((treeFault t).2 == 0) = true := by simp [z]
              have HT : Hid (atFault t f.path = pathFault f.path) := if_pos z
              clear z
              go_wp2_with fail
              refine (refPath_any f.path _).mono ?_
              rintro e w10 ⟨rfl, hc10⟩
              go_wp2_with fail
              go_meet
              case rel => exact ⟨by rw [HT.out], hw.trans hc10⟩
            · have z0 : ((treeFault t).2 == 0) = false := by simp [z]
              have HT : Hid (atFault t f.path = (treeFault t).2) := if_neg z
              clear z
              go_wp2_with fail
              go_meet
              case rel => exact ⟨by rw [HT.out], hw⟩
          case rest =>
            clear hw b0 b1
            obtain ⟨rfl, hw⟩ := hcut
            have hw := hw.out
            have b0 := hw.cellNever HB0.out
            have b1 := hw.cellNever HB1.out
            go_upto_if 114 with fail
            go_cut [8] from 114 (fun e wx => e = .int .i64 (put2Fault t f) ∧ Hid (Chg Never wA wx))
            case first =>
              by_cases z : atFault t f.path = 0
              · have z0 : (atFault t f.path == 0) = true := by simp [z]
                have HT : Hid (put2Fault t f = linesFault f.lines) := if_pos z
                clear z
                go_wp2_with fail
                refine (refLines_any f.lines _ _ (hf.never hw)).mono ?_
                rintro e w11 ⟨rfl, hc11⟩
                go_wp2_with fail
                go_meet
                case rel => exact ⟨by rw [HT.out], hw.trans hc11⟩
              · have z0 : (atFault t f.path == 0) = false := by simp [z]
                have HT : Hid (put2Fault t f = atFault t f.path) := if_neg z
                clear z
                go_wp2_with fail
                go_meet
                case rel => exact ⟨by rw [HT.out], hw⟩
            case rest =>
              clear hw b0 b1
              obtain ⟨rfl, hw⟩ := hcut
              have hw := hw.out
              have b0 := hw.cellNever HB0.out
              have b1 := hw.cellNever HB1.out
              go_upto_region 30 with fail
              go_cut [131] from 118 (fun tb wx => (∃ B : Bool, tb = .bool B ∧ Hid (B = decide (put2Fault t f = 0 ∧ placeI t f.path < 0 ∧ 8 ≤ t.length))) ∧ Hid (Chg Never wA wx))
              case first =>
                by_cases z : put2Fault t f = 0
                · have z0 : (put2Fault t f == 0) = true := by simp [z]
                  have Z := Lib.hid z
                  clear z
                  by_cases y : placeI t f.path < 0
                  · have y0 := decide_eq_true y
                    by_cases q : 8 ≤ t.length
                    · have q0 : decide ((8 : Int) ≤ t.length) = true := decide_eq_true (by omega)
                      have HQ := Lib.hid (decide_eq_true (show put2Fault t f = 0 ∧ placeI t f.path < 0 ∧ 8 ≤ t.length from ⟨Z.out, y, q⟩))
                      clear y q
                      go_wp2_with fail
                      refine (refPlace_any t f.path _ _ (ht.never hw)).mono ?_
                      rintro e w12 ⟨rfl, hc12⟩
                      go_wp2_with fail
                      go_meet
                      case rel => exact ⟨⟨_, rfl, HQ.out.symm⟩, hw.trans hc12⟩
                    · have q0 : decide ((8 : Int) ≤ t.length) = false := decide_eq_false (by omega)
                      have HQ := Lib.hid (decide_eq_false (show ¬ (put2Fault t f = 0 ∧ placeI t f.path < 0 ∧ 8 ≤ t.length) from fun hh => q hh.2.2))
                      clear y q
                      go_wp2_with fail
                      refine (refPlace_any t f.path _ _ (ht.never hw)).mono ?_
                      rintro e w12 ⟨rfl, hc12⟩
                      go_wp2_with fail
                      go_meet
                      case rel => exact ⟨⟨_, rfl, HQ.out.symm⟩, hw.trans hc12⟩
                  · have y0 := decide_eq_false y
                    have HQ := Lib.hid (decide_eq_false (show ¬ (put2Fault t f = 0 ∧ placeI t f.path < 0 ∧ 8 ≤ t.length) from fun hh => y hh.2.1))
                    clear y
                    go_wp2_with fail
                    refine (refPlace_any t f.path _ _ (ht.never hw)).mono ?_
                    rintro e w12 ⟨rfl, hc12⟩
                    go_wp2_with fail
                    go_meet
                    case rel => exact ⟨⟨_, rfl, HQ.out.symm⟩, hw.trans hc12⟩
                · have z0 : (put2Fault t f == 0) = false := by simp [z]
                  have HQ := Lib.hid (decide_eq_false (show ¬ (put2Fault t f = 0 ∧ placeI t f.path < 0 ∧ 8 ≤ t.length) from fun hh => z hh.1))
                  clear z
                  go_wp2_with fail
                  go_meet
                  case rel => exact ⟨⟨_, rfl, HQ.out.symm⟩, hw⟩
              case rest =>
                clear hw b0 b1
                obtain ⟨⟨Bl, rfl, HB⟩, hw⟩ := hcut
                have hw := hw.out
                go_upto_if 131 with fail
                go_cut [8] from 131 (fun e wx => e = .int .i64 (putFault t f) ∧ Hid (Chg Never wA wx))
                case first =>
                  cases Bl with
                  | true =>
                    have HE := Lib.hid (putFault_full (of_decide_eq_true HB.out.symm))
                    go_wp2_with fail
                    go_meet
                    case rel => exact ⟨by rw [HE.out], hw⟩
                  | false =>
                    have HE := Lib.hid (putFault_else (of_decide_eq_false HB.out.symm))
                    go_wp2_with fail
                    go_meet
                    case rel => exact ⟨by rw [HE.out], hw⟩
                case rest =>
                  clear hw HB
                  obtain ⟨rfl, hw⟩ := hcut
                  have hw := hw.out
                  have b0 := hw.cellNever HB0.out
                  have b1 := hw.cellNever HB1.out
                  go_upto_if 133 with fail
                  go_cut [22] from 133 (fun mr wx => Rdv wx Never mr (putR t f) ∧ Hid (Chg Never wA wx))
                  case first =>
                    by_cases z : putFault t f = 0
                    · have z0 : (putFault t f == 0) = true := by simp [z]
                      have za := putFault_zero z
                      have HR : Hid (putR t f = putLoop f false t) := by unfold Hid putR; rw [if_pos z, putLoop_sorted f t (atFault_sorted za)]
                      have hl8 := (treeFault_zero (atFault_zero za).1).1
                      clear z za
                      go_wp2_with fail
                      refine (refPut_any t f _ _ _ (ht.never hw) (hf.never hw) hfp (by omega)).mono ?_
                      rintro e w13 ⟨r13, rfl, hc13, hr13⟩
                      go_wp2_with fail
                      go_meet
                      case rel => exact ⟨by rw [HR.out]; exact hr13, hw.trans hc13⟩
                    · have z0 : (putFault t f == 0) = false := by simp [z]
                      have HR : Hid (putR t f = []) := if_neg z
                      clear z
                      go_wp2_with fail
                      go_meet
                      case rel => exact ⟨by rw [HR.out]; exact rdv_nil _ _, hw⟩
                  case rest =>
                    clear hw b0 b1
                    obtain ⟨hmr, hw⟩ := hcut
                    have hw := hw.out
                    have b0 := hw.cellNever HB0.out
                    have b1 := hw.cellNever HB1.out
                    go_wp2_with fail
                    refine (tree_put_any t f _ _ _ (ht.never hw) (hf.never hw) hfp m (hw.cellNever hm)).mono ?_
                    rintro e w14 ⟨r14, rfl, hc14, hr14⟩
                    have hw := hw.trans hc14
                    have hmr := hmr.never hc14
                    have hr14 := hr14.sub (O' := Never) (fun _ _ h => h.elim)
                    clear hc14 b0 b1
                    go_wp2_with fail
                    refine (error_any _ _ _ (hw.cellNever hg)).mono ?_
                    rintro e' w' ⟨rfl, hcE⟩
                    have hw := hw.trans hcE
                    have hmr := hmr.never hcE; have hr14 := hr14.never hcE
                    clear hcE
                    rw [beq_self_eq_true]
                    go_wp2_with fail
                    refine (trees_any _ _ _ _ _ hr14 hmr).mono ?_
                    rintro e w15 ⟨rfl, hc15⟩
                    have hw := hw.trans hc15
                    rw [decide_eq_true rfl]
                    clear hc15 hr14 hmr
                    go_wp2_with fail
                    go_ret
                    exact ⟨rfl, HAA.out.trans hw⟩
end Go.Proofs.YtpoammapjmddfaaDoor
