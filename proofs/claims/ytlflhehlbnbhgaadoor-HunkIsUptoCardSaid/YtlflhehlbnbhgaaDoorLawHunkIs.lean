/-
  THE LAW HunkIs, walked.
-/
import Derived.Test.YtlflhehlbnbhgaaDoorRefC
import Derived.Test.YtlflhehlbnbhgaaDoorRefD
import Derived.Test.YtlflhehlbnbhgaaDoorRefE
import Derived.Test.YtlflhehlbnbhgaaDoorRefH
import Derived.Test.YtlflhehlbnbhgaaDoorApplyA
import Derived.Test.YtlflhehlbnbhgaaDoorAs
import Derived.Deep.Cut
namespace Go.Proofs.YtlflhehlbnbhgaaDoor
open Go.RowKit

/-- a fault of what is handed, and of how much context -/
def rngFault (F n : Int) : Int := if F ≠ 0 then F else if n < 0 ∨ 1000 < n then 1 else 0
theorem rngFault_bad {F n : Int} (h : F = 0 ∧ (n < 0 ∨ 1000 < n)) : rngFault F n = 1 := by
  unfold rngFault; rw [if_neg (by simp [h.1]), if_pos h.2]
theorem rngFault_ok {F n : Int} (h : ¬ (F = 0 ∧ (n < 0 ∨ 1000 < n))) : rngFault F n = F := by
  unfold rngFault
  by_cases hF : F = 0
  · rw [if_neg (by simp [hF]), if_neg (fun h2 => h ⟨hF, h2⟩), hF]
  · rw [if_pos hF]
theorem rngFault_zero {F n : Int} (h : rngFault F n = 0) : F = 0 ∧ ¬ (n < 0 ∨ 1000 < n) := by
  unfold rngFault at h
  by_cases hF : F = 0
  · rw [if_neg (by simp [hF])] at h
    by_cases h2 : n < 0 ∨ 1000 < n
    · rw [if_pos h2] at h; cases h
    · exact ⟨hF, h2⟩
  · rw [if_pos hF] at h; exact absurd h hF
theorem cutFault_full {s : List Mark} {n : Int} (h : rngFault (scriptFault s) n = 0 ∧ (60 < (those s 43).length ∨ 60 < (those s 45).length)) : cutFault s n = 3 := by
  obtain ⟨h1, h2⟩ := rngFault_zero h.1
  unfold cutFault oldN newN
  rw [if_neg (by simp [h1]), if_neg h2, if_pos h.2]
theorem cutFault_rng {s : List Mark} {n : Int} (h : ¬ (rngFault (scriptFault s) n = 0 ∧ (60 < (those s 43).length ∨ 60 < (those s 45).length))) : cutFault s n = rngFault (scriptFault s) n := by
  unfold cutFault
  by_cases h1 : scriptFault s = 0
  · rw [if_neg (by simp [h1])]
    by_cases h2 : n < 0 ∨ 1000 < n
    · rw [if_pos h2, rngFault_bad ⟨h1, h2⟩]
    · have e : rngFault (scriptFault s) n = 0 := by rw [rngFault_ok (fun hh => h2 hh.2), h1]
      rw [if_neg h2, if_neg (show ¬ (60 < oldN s ∨ 60 < newN s) from fun hh => h ⟨e, hh⟩), e]
  · rw [if_pos h1, rngFault_ok (fun hh => h1 hh.1)]
theorem makeFault_rng {a b : List ByteArray} {n : Int} : makeFault a b n = rngFault (checkedFault a b) n := by
  unfold makeFault rngFault
  by_cases h : checkedFault a b = 0
  · rw [if_neg (by simp [h]), if_neg (by simp [h])]
    obtain ⟨h1, h2⟩ := checkedFault_zero.1 h
    have l1 := linesFault_len h1
    have l2 := linesFault_len h2
    have e1 : oldN (script a b) = a.length := by show (oldOf (script a b)).length = _; rw [script_old]
    have e2 : newN (script a b) = b.length := by show (newOf (script a b)).length = _; rw [script_new]
    unfold cutFault
    rw [if_neg (by simp [script_valid h]), e1, e2, if_neg (by omega : ¬ (60 < a.length ∨ 60 < b.length))]
  · rw [if_pos h, if_pos h]

theorem makeR_bad {a b : List ByteArray} {n : Int} (h : ¬ rngFault (checkedFault a b) n = 0) : makeR a b n = [] := by
  rw [← makeFault_rng] at h
  unfold makeFault at h
  unfold makeR cutR
  by_cases h1 : checkedFault a b = 0
  · rw [if_neg (by simp [h1])] at h
    rw [if_pos h1, if_neg h]
  · rw [if_neg h1]
theorem makeR_ok {a b : List ByteArray} {n : Int} (h : rngFault (checkedFault a b) n = 0) : makeR a b n = cutOf (script a b) n := by
  have h1 := (rngFault_zero h).1
  rw [← makeFault_rng] at h
  unfold makeFault at h
  rw [if_neg (by simp [h1])] at h
  unfold makeR cutR
  rw [if_pos h1, if_pos h]
set_option maxHeartbeats 4000000 in
set_option maxRecDepth 100000 in
theorem law_hunkIs (l : List Hunk) (s : List Mark) (n : Int) (a b : List ByteArray) (vl vs va vb : Value) (w : World) (hl : Rdv w Never vl l) (hs : Rdv w Never vs s) (hn : I64 n) (ha : Rdv w Never va a) (hb : Rdv w Never vb b) (hg : w.cell? ⟨0, 0, none⟩ = some errT) :
    Calls Tryd.prog 4 #[vl, vs, .int .i64 n, va, vb] w fun e w' => e = .returned (.bool true) ∧ Chg Never w w' := by
  go_enter Tryd.func4, Tryd.ntmps4
  go_wp2_with fail
  refine (refHunks_any l _ _ hl).mono ?_
  rintro e w1 ⟨rfl, hw⟩
  go_wp2_with fail
  refine (hunk_check_any l _ _ (hl.never hw)).mono ?_
  rintro e w2 ⟨rfl, hc2⟩
  have hw := hw.trans hc2
  clear hc2
  go_wp2_with fail
  refine (error_any _ _ _ (hw.cellNever hg)).mono ?_
  rintro e' w' ⟨rfl, hcE⟩
  have hw := hw.trans hcE
  skip
  clear hcE
  rw [beq_self_eq_true]
  go_upto_if 40 with fail
  go_cut [16] from 40 (fun want wx => Rdv wx Never want (turnR l) ∧ Hid (Chg Never w wx))
  case first =>
    by_cases z : (hunksFault l).2 = 0
    · have t0 : ((hunksFault l).2 == 0) = true := by simp [z]
      have HT : Hid (turnR l = turnHunks l) := if_pos z
      have hlen := (hunksFault_zero z).1
      have hm := fun x hx => scriptFault_len (hOk_mem _ _ _ (hunksFault_zero z).2 x hx)
      have HM := Lib.hid hm
      clear z hm
      go_wp2_with fail
      refine (turnOf_any l _ _ (hl.never hw) hlen HM.out).mono ?_
      rintro e w3 ⟨r3, rfl, hc3, hr3⟩
      go_wp2_with fail
      go_meet
      case rel => exact ⟨by rw [HT.out]; exact hr3.sub (fun _ _ h => h.elim), hw.trans hc3⟩
    · have t0 : ((hunksFault l).2 == 0) = false := by simp [z]
      have HT : Hid (turnR l = []) := if_neg z
      clear z
      go_wp2_with fail
      go_meet
      case rel => exact ⟨by rw [HT.out]; exact rdv_nil _ _, hw⟩
  case rest =>
    clear hw
    obtain ⟨hwant, hw⟩ := hcut
    have hw := hw.out
    go_wp2_with fail
    refine (turn_any l _ _ (hl.never hw)).mono ?_
    rintro e w4 ⟨r4, rfl, hc4, hr4⟩
    have hw := hw.trans hc4
    have hwant := hwant.never hc4
    have hr4 := hr4.sub (O' := Never) (fun _ _ h => h.elim)
    clear hc4
    go_wp2_with fail
    refine (error_any _ _ _ (hw.cellNever hg)).mono ?_
    rintro e' w' ⟨rfl, hcE⟩
    have hw := hw.trans hcE
    have hwant := hwant.never hcE; have hr4 := hr4.never hcE
    clear hcE
    rw [beq_self_eq_true]
    go_wp2_with fail
    refine (hunks_eq_any _ _ _ _ _ hr4 hwant).mono ?_
    rintro e w5 ⟨rfl, hc5⟩
    have hw := hw.trans hc5
    rw [decide_eq_true rfl]
    clear hc5 hr4 hwant
    go_wp2_with fail
    refine (refScript_any s _ _ (hs.never hw)).mono ?_
    rintro e w6 ⟨rfl, hc6⟩
    have hw := hw.trans hc6
    clear hc6
    go_upto_region 15 with fail
    go_cut [71] from 62 (fun tb wx => (∃ B : Bool, tb = .bool B ∧ Hid (B = decide (scriptFault s = 0 ∧ (n < 0 ∨ 1000 < n)))) ∧ Hid (Chg Never w wx))
    case first =>
      by_cases z : scriptFault s = 0
      · have t0 : (scriptFault s == 0) = true := by simp [z]
        have Z := Lib.hid z
        clear z
        by_cases z1 : n < 0
        · have t1 := decide_eq_true z1
          go_wp2_with fail
          go_meet
          case rel => exact ⟨⟨_, rfl, (decide_eq_true (show _ ∧ _ from ⟨Z.out, .inl z1⟩)).symm⟩, hw⟩
        · have t1 := decide_eq_false z1
          by_cases z2 : 1000 < n
          · have t2 := decide_eq_true z2
            go_wp2_with fail
            go_meet
            case rel => exact ⟨⟨_, rfl, (decide_eq_true (show _ ∧ _ from ⟨Z.out, .inr z2⟩)).symm⟩, hw⟩
          · have t2 := decide_eq_false z2
            go_wp2_with fail
            go_meet
            case rel => exact ⟨⟨_, rfl, (decide_eq_false (by rintro ⟨_, hh⟩; omega)).symm⟩, hw⟩
      · have t0 : (scriptFault s == 0) = false := by simp [z]
        have Z := Lib.hid z
        clear z
        go_wp2_with fail
        go_meet
        case rel => exact ⟨⟨_, rfl, (decide_eq_false (fun hh => Z.out hh.1)).symm⟩, hw⟩
    case rest =>
      clear hw
      obtain ⟨⟨B, rfl, HB⟩, hw⟩ := hcut
      have hw := hw.out
      go_upto_if 71 with fail
      go_cut [12] from 71 (fun e wx => e = .int .i64 (rngFault (scriptFault s) n) ∧ Hid (Chg Never w wx))
      case first =>
        cases B with
        | true =>
          have HE := Lib.hid (rngFault_bad (of_decide_eq_true HB.out.symm))
          go_wp2_with fail
          go_meet
          case rel => exact ⟨by rw [HE.out], hw⟩
        | false =>
          have HE := Lib.hid (rngFault_ok (of_decide_eq_false HB.out.symm))
          go_wp2_with fail
          go_meet
          case rel => exact ⟨by rw [HE.out], hw⟩
      case rest =>
        clear hw
        obtain ⟨rfl, hw⟩ := hcut
        have hw := hw.out
        go_upto_region 17 with fail
        go_cut [85] from 72 (fun tb wx => (∃ B : Bool, tb = .bool B ∧ Hid (B = decide (rngFault (scriptFault s) n = 0 ∧ (60 < (those s 43).length ∨ 60 < (those s 45).length)))) ∧ Hid (Chg Never w wx))
        case first =>
          by_cases z : rngFault (scriptFault s) n = 0
          · have t0 : (rngFault (scriptFault s) n == 0) = true := by simp [z]
            have Z := Lib.hid z
            have SZ := Lib.hid (rngFault_zero z).1
            clear z
            by_cases z1 : 60 < (those s 43).length
            · have t1 : decide ((60 : Int) < ((those s 43).length : Int)) = true := by simp; omega
              go_wp2_with fail
              refine (refOld_any s _ _ (hs.never hw) SZ.out).mono ?_
              rintro e w7 ⟨r7, rfl, hc7, hr7⟩
              obtain ⟨oa, oc, rfl, _, _, _⟩ := rdv_slice hr7
              clear hr7
              go_wp2_with fail
              go_meet
              case rel => exact ⟨⟨_, rfl, (decide_eq_true (show _ ∧ _ from ⟨Z.out, .inl (by omega)⟩)).symm⟩, hw.trans hc7⟩
            · have t1 : decide ((60 : Int) < ((those s 43).length : Int)) = false := by simp; omega
              go_wp2_with fail
              refine (refOld_any s _ _ (hs.never hw) SZ.out).mono ?_
              rintro e w7 ⟨r7, rfl, hc7, hr7⟩
              obtain ⟨oa, oc, rfl, _, _, _⟩ := rdv_slice hr7
              have hw7 := hw.trans hc7
              clear hr7
              go_wp2_with fail
              refine (refNew_any s _ _ (hs.never hw7) SZ.out).mono ?_
              rintro e w8 ⟨r8, rfl, hc8, hr8⟩
              obtain ⟨na, nc, rfl, _, _, _⟩ := rdv_slice hr8
              clear hr8
              by_cases z2 : 60 < (those s 45).length
              · have t2 : decide ((60 : Int) < ((those s 45).length : Int)) = true := by simp; omega
                go_wp2_with fail
                go_meet
                case rel => exact ⟨⟨_, rfl, (decide_eq_true (show _ ∧ _ from ⟨Z.out, .inr (by omega)⟩)).symm⟩, hw7.trans hc8⟩
              · have t2 : decide ((60 : Int) < ((those s 45).length : Int)) = false := by simp; omega
                go_wp2_with fail
                go_meet
                case rel => exact ⟨⟨_, rfl, (decide_eq_false (by rintro ⟨_, hh⟩; omega)).symm⟩, hw7.trans hc8⟩
          · have t0 : (rngFault (scriptFault s) n == 0) = false := by simp [z]
            have Z := Lib.hid z
            clear z
            go_wp2_with fail
            go_meet
            case rel => exact ⟨⟨_, rfl, (decide_eq_false (fun hh => Z.out hh.1)).symm⟩, hw⟩
        case rest =>
          clear hw
          obtain ⟨⟨B, rfl, HB⟩, hw⟩ := hcut
          have hw := hw.out
          go_upto_if 85 with fail
          go_cut [12] from 85 (fun e wx => e = .int .i64 (cutFault s n) ∧ Hid (Chg Never w wx))
          case first =>
            cases B with
            | true =>
              have HE := Lib.hid (cutFault_full (of_decide_eq_true HB.out.symm))
              go_wp2_with fail
              go_meet
              case rel => exact ⟨by rw [HE.out], hw⟩
            | false =>
              have HE := Lib.hid (cutFault_rng (of_decide_eq_false HB.out.symm))
              go_wp2_with fail
              go_meet
              case rel => exact ⟨by rw [HE.out], hw⟩
          case rest =>
            clear hw
            obtain ⟨rfl, hw⟩ := hcut
            have hw := hw.out
            go_upto_if 87 with fail
            go_cut [16] from 87 (fun want wx => Rdv wx Never want (cutR s n) ∧ Hid (Chg Never w wx))
            case first =>
              by_cases z : cutFault s n = 0
              · have t0 : (cutFault s n == 0) = true := by simp [z]
                have HT : Hid (cutR s n = cutOf s n) := if_pos z
                obtain ⟨c1, c2, c3, _, _⟩ := cutFault_zero z
                have SZ := Lib.hid c1
                clear z c1
                go_wp2_with fail
                refine (refCut_any s n _ _ (hs.never hw) SZ.out (by omega) (by omega)).mono ?_
                rintro e w9 ⟨r9, rfl, hc9, hr9⟩
                go_wp2_with fail
                go_meet
                case rel => exact ⟨by rw [HT.out]; exact hr9.sub (fun _ _ h => h.elim), hw.trans hc9⟩
              · have t0 : (cutFault s n == 0) = false := by simp [z]
                have HT : Hid (cutR s n = []) := if_neg z
                clear z
                go_wp2_with fail
                go_meet
                case rel => exact ⟨by rw [HT.out]; exact rdv_nil _ _, hw⟩
            case rest =>
              clear hw
              obtain ⟨hwant, hw⟩ := hcut
              have hw := hw.out
              go_wp2_with fail
              refine (Cut_any s n _ _ (hs.never hw) hn).mono ?_
              rintro e wq ⟨rq, rfl, hcq, hrq⟩
              have hw := hw.trans hcq
              have hwant := (hwant).never hcq
              have hrq := hrq.sub (O' := Never) (fun _ _ h => h.elim)
              clear hcq
              go_wp2_with fail
              refine (error_any _ _ _ (hw.cellNever hg)).mono ?_
              rintro e' w' ⟨rfl, hcE⟩
              have hw := hw.trans hcE
              have hwant := hwant.never hcE; have hrq := hrq.never hcE
              clear hcE
              rw [beq_self_eq_true]
              go_wp2_with fail
              refine (hunks_eq_any _ _ _ _ _ hrq hwant).mono ?_
              rintro e wq2 ⟨rfl, hcq2⟩
              have hw := hw.trans hcq2
              rw [decide_eq_true rfl]
              clear hcq2 hrq hwant
              go_wp2_with fail
              refine (refLines_any a _ _ (ha.never hw)).mono ?_
              rintro e w10 ⟨rfl, hc10⟩
              have hw := hw.trans hc10
              clear hc10
              go_upto_if 112 with fail
              go_cut [12] from 112 (fun e wx => e = .int .i64 (checkedFault a b) ∧ Hid (Chg Never w wx))
              case first =>
                by_cases z : linesFault a = 0
                · have t0 : (linesFault a == 0) = true := by simp [z]
                  have HE : Hid (checkedFault a b = linesFault b) := if_pos z
                  clear z
                  go_wp2_with fail
                  refine (refLines_any b _ _ (hb.never hw)).mono ?_
                  rintro e w11 ⟨rfl, hc11⟩
                  go_wp2_with fail
                  go_meet
                  case rel => exact ⟨by rw [HE.out], hw.trans hc11⟩
                · have t0 : (linesFault a == 0) = false := by simp [z]
                  have HE : Hid (checkedFault a b = linesFault a) := if_neg z
                  clear z
                  go_wp2_with fail
                  go_meet
                  case rel => exact ⟨by rw [HE.out], hw⟩
              case rest =>
                clear hw
                obtain ⟨rfl, hw⟩ := hcut
                have hw := hw.out
                go_upto_region 30 with fail
                go_cut [124] from 115 (fun tb wx => (∃ B : Bool, tb = .bool B ∧ Hid (B = decide (checkedFault a b = 0 ∧ (n < 0 ∨ 1000 < n)))) ∧ Hid (Chg Never w wx))
                case first =>
                  by_cases z : checkedFault a b = 0
                  · have t0 : (checkedFault a b == 0) = true := by simp [z]
                    have Z := Lib.hid z
                    clear z
                    by_cases z1 : n < 0
                    · have t1 := decide_eq_true z1
                      go_wp2_with fail
                      go_meet
                      case rel => exact ⟨⟨_, rfl, (decide_eq_true (show _ ∧ _ from ⟨Z.out, .inl z1⟩)).symm⟩, hw⟩
                    · have t1 := decide_eq_false z1
                      by_cases z2 : 1000 < n
                      · have t2 := decide_eq_true z2
                        go_wp2_with fail
                        go_meet
                        case rel => exact ⟨⟨_, rfl, (decide_eq_true (show _ ∧ _ from ⟨Z.out, .inr z2⟩)).symm⟩, hw⟩
                      · have t2 := decide_eq_false z2
                        go_wp2_with fail
                        go_meet
                        case rel => exact ⟨⟨_, rfl, (decide_eq_false (by rintro ⟨_, hh⟩; omega)).symm⟩, hw⟩
                  · have t0 : (checkedFault a b == 0) = false := by simp [z]
                    have Z := Lib.hid z
                    clear z
                    go_wp2_with fail
                    go_meet
                    case rel => exact ⟨⟨_, rfl, (decide_eq_false (fun hh => Z.out hh.1)).symm⟩, hw⟩
                case rest =>
                  clear hw
                  obtain ⟨⟨B, rfl, HB⟩, hw⟩ := hcut
                  have hw := hw.out
                  go_upto_if 124 with fail
                  go_cut [12] from 124 (fun e wx => e = .int .i64 (rngFault (checkedFault a b) n) ∧ Hid (Chg Never w wx))
                  case first =>
                    cases B with
                    | true =>
                      have HE := Lib.hid (rngFault_bad (of_decide_eq_true HB.out.symm))
                      go_wp2_with fail
                      go_meet
                      case rel => exact ⟨by rw [HE.out], hw⟩
                    | false =>
                      have HE := Lib.hid (rngFault_ok (of_decide_eq_false HB.out.symm))
                      go_wp2_with fail
                      go_meet
                      case rel => exact ⟨by rw [HE.out], hw⟩
                  case rest =>
                    clear hw
                    obtain ⟨rfl, hw⟩ := hcut
                    have hw := hw.out
                    go_upto_if 126 with fail
                    go_cut [16] from 126 (fun want wx => Rdv wx Never want (makeR a b n) ∧ Hid (Chg Never w wx))
                    case first =>
                      by_cases z : rngFault (checkedFault a b) n = 0
                      · have t0 : (rngFault (checkedFault a b) n == 0) = true := by simp [z]
                        have HT : Hid (makeR a b n = cutOf (script a b) n) := makeR_ok z
                        obtain ⟨c1, c2⟩ := rngFault_zero z
                        obtain ⟨d1, d2⟩ := checkedFault_zero.1 c1
                        have l1 := linesFault_len d1
                        have l2 := linesFault_len d2
                        have SZ := Lib.hid (script_valid c1)
                        clear z c1 d1 d2
                        go_wp2_with fail
                        refine (scriptOf_any a b _ _ _ (ha.never hw) (hb.never hw) l1 l2).mono ?_
                        rintro e w12 ⟨r12, rfl, hc12, hr12⟩
                        have hr12 := hr12.sub (O' := Never) (fun _ _ h => h.elim)
                        go_wp2_with fail
                        refine (refCut_any (script a b) n _ _ hr12 SZ.out (by omega) (by omega)).mono ?_
                        rintro e w13 ⟨r13, rfl, hc13, hr13⟩
                        go_wp2_with fail
                        go_meet
                        case rel => exact ⟨by rw [HT.out]; exact hr13.sub (fun _ _ h => h.elim), (hw.trans hc12).trans hc13⟩
                      · have t0 : (rngFault (checkedFault a b) n == 0) = false := by simp [z]
                        have HT : Hid (makeR a b n = []) := makeR_bad z
                        clear z
                        go_wp2_with fail
                        go_meet
                        case rel => exact ⟨by rw [HT.out]; exact rdv_nil _ _, hw⟩
                    case rest =>
                      clear hw
                      obtain ⟨hwant, hw⟩ := hcut
                      have hw := hw.out
                      go_wp2_with fail
                      refine (make_any a b n _ _ _ (ha.never hw) (hb.never hw) hn).mono ?_
                      rintro e wq ⟨rq, rfl, hcq, hrq⟩
                      rw [makeFault_rng]
                      have hw := hw.trans hcq
                      have hwant := (hwant).never hcq
                      have hrq := hrq.sub (O' := Never) (fun _ _ h => h.elim)
                      clear hcq
                      go_wp2_with fail
                      refine (error_any _ _ _ (hw.cellNever hg)).mono ?_
                      rintro e' w' ⟨rfl, hcE⟩
                      have hw := hw.trans hcE
                      have hwant := hwant.never hcE; have hrq := hrq.never hcE
                      clear hcE
                      rw [beq_self_eq_true]
                      go_wp2_with fail
                      refine (hunks_eq_any _ _ _ _ _ hrq hwant).mono ?_
                      rintro e wq2 ⟨rfl, hcq2⟩
                      have hw := hw.trans hcq2
                      rw [decide_eq_true rfl]
                      clear hcq2 hrq hwant
                      go_wp2_with fail
                      go_ret
                      exact ⟨rfl, hw⟩
end Go.Proofs.YtlflhehlbnbhgaaDoor
