/-
  THE LAW LooseIs, walked.
-/
import Derived.Test.YtlflhehlbnbhgaaDoorRefM
import Derived.Test.YtlflhehlbnbhgaaDoorInts
import Derived.Test.YtlflhehlbnbhgaaDoorAs
namespace Go.Proofs.YtlflhehlbnbhgaaDoor
open Go.RowKit

set_option maxHeartbeats 4000000 in
set_option maxRecDepth 100000 in
theorem law_looseIs (a : List ByteArray) (l : List Hunk) (fuzz far : Int) (va vl : Value) (w : World) (ha : Rdv w Never va a) (hl : Rdv w Never vl l) (hfz : I64 fuzz) (hfr : I64 far) (hg : w.cell? ⟨0, 0, none⟩ = some errT) :
    Calls Tryd.prog 6 #[va, vl, .int .i64 fuzz, .int .i64 far] w fun e w' => e = .returned (.bool true) ∧ Chg Never w w' := by
  by_cases h1 : linesFault a = 0
  · have H1 := Lib.hid h1
    by_cases h2 : (hunksFault l).2 = 0
    · have H2 := Lib.hid (hunksFault_first h2)
      clear h1 h2
      by_cases q1 : fuzz < 0
      · have t1 := decide_eq_true q1
        have HF : Hid (looseFault a l fuzz far = 1) := by rw [Hid, looseFault_range H1.out (by rw [H2.out]), if_pos (by omega)]
        have HNZ : Hid ((1 : Int) ≠ 0) := by rw [Hid]; decide
        go_enter Tryd.func6, Tryd.ntmps6
        go_wp2_with fail
        refine (refLines_any a _ _ ha).mono ?_
        rintro e w1 ⟨rfl, hw⟩
        rw [H1.out]
        go_wp2_with fail
        refine (refHunks_any l _ _ (hl.never hw)).mono ?_
        rintro e w2 ⟨rfl, hc2⟩
        have hw := hw.trans hc2
        clear hc2
        rw [H2.out]
        go_wp2_with fail
        have HR : Hid (looseR a l fuzz far = ([], [], [])) := if_neg (by rw [HF.out]; exact HNZ.out)
        refine (loose_any a l fuzz far _ _ _ (ha.never hw) (hl.never hw)).mono ?_
        rintro e w3 ⟨x1, x2, x3, rfl, hc3, hx1, hx2, hx3⟩
        have hw := hw.trans hc3
        have hy1 := (rdv_nil (α := ByteArray) _ Never).never hc3
        have hy2 := (rdv_nil (α := Hunk) _ Never).never hc3
        have hy3 := (rdv_nil (α := Int) _ Never).never hc3
        have hx1 := hx1.sub (O' := Never) (fun _ _ h => h.elim)
        have hx2 := hx2.sub (O' := Never) (fun _ _ h => h.elim)
        have hx3 := hx3.sub (O' := Never) (fun _ _ h => h.elim)
        clear hc3
        rw [HF.out]
        rw [HR.out] at hx1 hx2 hx3
        go_wp2_with fail
        refine (error_any _ _ _ (hw.cellNever hg)).mono ?_
        rintro e' w4 ⟨rfl, hc4⟩
        have hw := hw.trans hc4
        have hx1 := hx1.never hc4
        have hx2 := hx2.never hc4
        have hx3 := hx3.never hc4
        have hy1 := hy1.never hc4
        have hy2 := hy2.never hc4
        have hy3 := hy3.never hc4
        clear hc4
        rw [beq_self_eq_true]
        go_wp2_with fail
        refine (texts_any _ _ _ _ _ hx1 hy1).mono ?_
        rintro e w5 ⟨rfl, hc5⟩
        have hw := hw.trans hc5
        have hx2 := hx2.never hc5
        have hx3 := hx3.never hc5
        have hy2 := hy2.never hc5
        have hy3 := hy3.never hc5
        rw [decide_eq_true rfl]
        clear hc5 hx1 hy1
        go_wp2_with fail
        refine (hunks_eq_any _ _ _ _ _ hx2 hy2).mono ?_
        rintro e w6 ⟨rfl, hc6⟩
        have hw := hw.trans hc6
        have hx3 := hx3.never hc6
        have hy3 := hy3.never hc6
        rw [decide_eq_true rfl]
        clear hc6 hx2 hy2
        go_wp2_with fail
        refine (ints_any _ _ _ _ _ hx3 hy3).mono ?_
        rintro e w7 ⟨rfl, hc7⟩
        have hw := hw.trans hc7
        rw [decide_eq_true rfl]
        clear hc7 hx3 hy3
        go_wp2_with fail
        go_ret
        exact ⟨rfl, hw⟩
      · have t1 := decide_eq_false q1
        by_cases q2 : 3 < fuzz
        · have t2 := decide_eq_true q2
          have HF : Hid (looseFault a l fuzz far = 1) := by rw [Hid, looseFault_range H1.out (by rw [H2.out]), if_pos (by omega)]
          have HNZ : Hid ((1 : Int) ≠ 0) := by rw [Hid]; decide
          go_enter Tryd.func6, Tryd.ntmps6
          go_wp2_with fail
          refine (refLines_any a _ _ ha).mono ?_
          rintro e w1 ⟨rfl, hw⟩
          rw [H1.out]
          go_wp2_with fail
          refine (refHunks_any l _ _ (hl.never hw)).mono ?_
          rintro e w2 ⟨rfl, hc2⟩
          have hw := hw.trans hc2
          clear hc2
          rw [H2.out]
          go_wp2_with fail
          have HR : Hid (looseR a l fuzz far = ([], [], [])) := if_neg (by rw [HF.out]; exact HNZ.out)
          refine (loose_any a l fuzz far _ _ _ (ha.never hw) (hl.never hw)).mono ?_
          rintro e w3 ⟨x1, x2, x3, rfl, hc3, hx1, hx2, hx3⟩
          have hw := hw.trans hc3
          have hy1 := (rdv_nil (α := ByteArray) _ Never).never hc3
          have hy2 := (rdv_nil (α := Hunk) _ Never).never hc3
          have hy3 := (rdv_nil (α := Int) _ Never).never hc3
          have hx1 := hx1.sub (O' := Never) (fun _ _ h => h.elim)
          have hx2 := hx2.sub (O' := Never) (fun _ _ h => h.elim)
          have hx3 := hx3.sub (O' := Never) (fun _ _ h => h.elim)
          clear hc3
          rw [HF.out]
          rw [HR.out] at hx1 hx2 hx3
          go_wp2_with fail
          refine (error_any _ _ _ (hw.cellNever hg)).mono ?_
          rintro e' w4 ⟨rfl, hc4⟩
          have hw := hw.trans hc4
          have hx1 := hx1.never hc4
          have hx2 := hx2.never hc4
          have hx3 := hx3.never hc4
          have hy1 := hy1.never hc4
          have hy2 := hy2.never hc4
          have hy3 := hy3.never hc4
          clear hc4
          rw [beq_self_eq_true]
          go_wp2_with fail
          refine (texts_any _ _ _ _ _ hx1 hy1).mono ?_
          rintro e w5 ⟨rfl, hc5⟩
          have hw := hw.trans hc5
          have hx2 := hx2.never hc5
          have hx3 := hx3.never hc5
          have hy2 := hy2.never hc5
          have hy3 := hy3.never hc5
          rw [decide_eq_true rfl]
          clear hc5 hx1 hy1
          go_wp2_with fail
          refine (hunks_eq_any _ _ _ _ _ hx2 hy2).mono ?_
          rintro e w6 ⟨rfl, hc6⟩
          have hw := hw.trans hc6
          have hx3 := hx3.never hc6
          have hy3 := hy3.never hc6
          rw [decide_eq_true rfl]
          clear hc6 hx2 hy2
          go_wp2_with fail
          refine (ints_any _ _ _ _ _ hx3 hy3).mono ?_
          rintro e w7 ⟨rfl, hc7⟩
          have hw := hw.trans hc7
          rw [decide_eq_true rfl]
          clear hc7 hx3 hy3
          go_wp2_with fail
          go_ret
          exact ⟨rfl, hw⟩
        · have t2 := decide_eq_false q2
          by_cases q3 : far < 0
          · have t3 := decide_eq_true q3
            have HF : Hid (looseFault a l fuzz far = 1) := by rw [Hid, looseFault_range H1.out (by rw [H2.out]), if_pos (by omega)]
            have HNZ : Hid ((1 : Int) ≠ 0) := by rw [Hid]; decide
            go_enter Tryd.func6, Tryd.ntmps6
            go_wp2_with fail
            refine (refLines_any a _ _ ha).mono ?_
            rintro e w1 ⟨rfl, hw⟩
            rw [H1.out]
            go_wp2_with fail
            refine (refHunks_any l _ _ (hl.never hw)).mono ?_
            rintro e w2 ⟨rfl, hc2⟩
            have hw := hw.trans hc2
            clear hc2
            rw [H2.out]
            go_wp2_with fail
            have HR : Hid (looseR a l fuzz far = ([], [], [])) := if_neg (by rw [HF.out]; exact HNZ.out)
            refine (loose_any a l fuzz far _ _ _ (ha.never hw) (hl.never hw)).mono ?_
            rintro e w3 ⟨x1, x2, x3, rfl, hc3, hx1, hx2, hx3⟩
            have hw := hw.trans hc3
            have hy1 := (rdv_nil (α := ByteArray) _ Never).never hc3
            have hy2 := (rdv_nil (α := Hunk) _ Never).never hc3
            have hy3 := (rdv_nil (α := Int) _ Never).never hc3
            have hx1 := hx1.sub (O' := Never) (fun _ _ h => h.elim)
            have hx2 := hx2.sub (O' := Never) (fun _ _ h => h.elim)
            have hx3 := hx3.sub (O' := Never) (fun _ _ h => h.elim)
            clear hc3
            rw [HF.out]
            rw [HR.out] at hx1 hx2 hx3
            go_wp2_with fail
            refine (error_any _ _ _ (hw.cellNever hg)).mono ?_
            rintro e' w4 ⟨rfl, hc4⟩
            have hw := hw.trans hc4
            have hx1 := hx1.never hc4
            have hx2 := hx2.never hc4
            have hx3 := hx3.never hc4
            have hy1 := hy1.never hc4
            have hy2 := hy2.never hc4
            have hy3 := hy3.never hc4
            clear hc4
            rw [beq_self_eq_true]
            go_wp2_with fail
            refine (texts_any _ _ _ _ _ hx1 hy1).mono ?_
            rintro e w5 ⟨rfl, hc5⟩
            have hw := hw.trans hc5
            have hx2 := hx2.never hc5
            have hx3 := hx3.never hc5
            have hy2 := hy2.never hc5
            have hy3 := hy3.never hc5
            rw [decide_eq_true rfl]
            clear hc5 hx1 hy1
            go_wp2_with fail
            refine (hunks_eq_any _ _ _ _ _ hx2 hy2).mono ?_
            rintro e w6 ⟨rfl, hc6⟩
            have hw := hw.trans hc6
            have hx3 := hx3.never hc6
            have hy3 := hy3.never hc6
            rw [decide_eq_true rfl]
            clear hc6 hx2 hy2
            go_wp2_with fail
            refine (ints_any _ _ _ _ _ hx3 hy3).mono ?_
            rintro e w7 ⟨rfl, hc7⟩
            have hw := hw.trans hc7
            rw [decide_eq_true rfl]
            clear hc7 hx3 hy3
            go_wp2_with fail
            go_ret
            exact ⟨rfl, hw⟩
          · have t3 := decide_eq_false q3
            by_cases q4 : 60 < far
            · have t4 := decide_eq_true q4
              have HF : Hid (looseFault a l fuzz far = 1) := by rw [Hid, looseFault_range H1.out (by rw [H2.out]), if_pos (by omega)]
              have HNZ : Hid ((1 : Int) ≠ 0) := by rw [Hid]; decide
              go_enter Tryd.func6, Tryd.ntmps6
              go_wp2_with fail
              refine (refLines_any a _ _ ha).mono ?_
              rintro e w1 ⟨rfl, hw⟩
              rw [H1.out]
              go_wp2_with fail
              refine (refHunks_any l _ _ (hl.never hw)).mono ?_
              rintro e w2 ⟨rfl, hc2⟩
              have hw := hw.trans hc2
              clear hc2
              rw [H2.out]
              go_wp2_with fail
              have HR : Hid (looseR a l fuzz far = ([], [], [])) := if_neg (by rw [HF.out]; exact HNZ.out)
              refine (loose_any a l fuzz far _ _ _ (ha.never hw) (hl.never hw)).mono ?_
              rintro e w3 ⟨x1, x2, x3, rfl, hc3, hx1, hx2, hx3⟩
              have hw := hw.trans hc3
              have hy1 := (rdv_nil (α := ByteArray) _ Never).never hc3
              have hy2 := (rdv_nil (α := Hunk) _ Never).never hc3
              have hy3 := (rdv_nil (α := Int) _ Never).never hc3
              have hx1 := hx1.sub (O' := Never) (fun _ _ h => h.elim)
              have hx2 := hx2.sub (O' := Never) (fun _ _ h => h.elim)
              have hx3 := hx3.sub (O' := Never) (fun _ _ h => h.elim)
              clear hc3
              rw [HF.out]
              rw [HR.out] at hx1 hx2 hx3
              go_wp2_with fail
              refine (error_any _ _ _ (hw.cellNever hg)).mono ?_
              rintro e' w4 ⟨rfl, hc4⟩
              have hw := hw.trans hc4
              have hx1 := hx1.never hc4
              have hx2 := hx2.never hc4
              have hx3 := hx3.never hc4
              have hy1 := hy1.never hc4
              have hy2 := hy2.never hc4
              have hy3 := hy3.never hc4
              clear hc4
              rw [beq_self_eq_true]
              go_wp2_with fail
              refine (texts_any _ _ _ _ _ hx1 hy1).mono ?_
              rintro e w5 ⟨rfl, hc5⟩
              have hw := hw.trans hc5
              have hx2 := hx2.never hc5
              have hx3 := hx3.never hc5
              have hy2 := hy2.never hc5
              have hy3 := hy3.never hc5
              rw [decide_eq_true rfl]
              clear hc5 hx1 hy1
              go_wp2_with fail
              refine (hunks_eq_any _ _ _ _ _ hx2 hy2).mono ?_
              rintro e w6 ⟨rfl, hc6⟩
              have hw := hw.trans hc6
              have hx3 := hx3.never hc6
              have hy3 := hy3.never hc6
              rw [decide_eq_true rfl]
              clear hc6 hx2 hy2
              go_wp2_with fail
              refine (ints_any _ _ _ _ _ hx3 hy3).mono ?_
              rintro e w7 ⟨rfl, hc7⟩
              have hw := hw.trans hc7
              rw [decide_eq_true rfl]
              clear hc7 hx3 hy3
              go_wp2_with fail
              go_ret
              exact ⟨rfl, hw⟩
            · have t4 := decide_eq_false q4
              obtain ⟨fz, rfl⟩ := Int.eq_ofNat_of_zero_le (show 0 ≤ fuzz by omega)
              obtain ⟨fr, rfl⟩ := Int.eq_ofNat_of_zero_le (show 0 ≤ far by omega)
              have HF : Hid (looseFault a l fz fr = 0) := by rw [Hid, looseFault_range H1.out (by rw [H2.out]), if_neg (by omega)]
              have HR : Hid (looseR a l fz fr = looseOf a l fz fr) := if_pos HF.out
              go_enter Tryd.func6, Tryd.ntmps6
              go_wp2_with fail
              refine (refLines_any a _ _ ha).mono ?_
              rintro e w1 ⟨rfl, hw⟩
              rw [H1.out]
              go_wp2_with fail
              refine (refHunks_any l _ _ (hl.never hw)).mono ?_
              rintro e w2 ⟨rfl, hc2⟩
              have hw := hw.trans hc2
              clear hc2
              rw [H2.out]
              go_wp2_with fail
              refine (looseOf_any a l fz fr _ _ _ (ha.never hw) (hl.never hw) H1.out H2.out (by omega) (by omega)).mono ?_
              rintro e w8 ⟨s1, s2, s3, rfl, hc8, hs1, hs2, hs3⟩
              have hw := hw.trans hc8
              clear hc8
              go_wp2_with fail
              refine (loose_any a l fz fr _ _ _ (ha.never hw) (hl.never hw)).mono ?_
              rintro e w3 ⟨x1, x2, x3, rfl, hc3, hx1, hx2, hx3⟩
              have hw := hw.trans hc3
              have hy1 := (hs1).never hc3
              have hy2 := (hs2).never hc3
              have hy3 := (hs3).never hc3
              have hx1 := hx1.sub (O' := Never) (fun _ _ h => h.elim)
              have hx2 := hx2.sub (O' := Never) (fun _ _ h => h.elim)
              have hx3 := hx3.sub (O' := Never) (fun _ _ h => h.elim)
              clear hc3
              rw [HF.out]
              rw [HR.out] at hx1 hx2 hx3
              go_wp2_with fail
              refine (error_any _ _ _ (hw.cellNever hg)).mono ?_
              rintro e' w4 ⟨rfl, hc4⟩
              have hw := hw.trans hc4
              have hx1 := hx1.never hc4
              have hx2 := hx2.never hc4
              have hx3 := hx3.never hc4
              have hy1 := hy1.never hc4
              have hy2 := hy2.never hc4
              have hy3 := hy3.never hc4
              clear hc4
              rw [beq_self_eq_true]
              go_wp2_with fail
              refine (texts_any _ _ _ _ _ hx1 hy1).mono ?_
              rintro e w5 ⟨rfl, hc5⟩
              have hw := hw.trans hc5
              have hx2 := hx2.never hc5
              have hx3 := hx3.never hc5
              have hy2 := hy2.never hc5
              have hy3 := hy3.never hc5
              rw [decide_eq_true rfl]
              clear hc5 hx1 hy1
              go_wp2_with fail
              refine (hunks_eq_any _ _ _ _ _ hx2 hy2).mono ?_
              rintro e w6 ⟨rfl, hc6⟩
              have hw := hw.trans hc6
              have hx3 := hx3.never hc6
              have hy3 := hy3.never hc6
              rw [decide_eq_true rfl]
              clear hc6 hx2 hy2
              go_wp2_with fail
              refine (ints_any _ _ _ _ _ hx3 hy3).mono ?_
              rintro e w7 ⟨rfl, hc7⟩
              have hw := hw.trans hc7
              rw [decide_eq_true rfl]
              clear hc7 hx3 hy3
              go_wp2_with fail
              go_ret
              exact ⟨rfl, hw⟩
    · have HF : Hid (looseFault a l fuzz far = (hunksFault l).2) := by
        unfold Hid looseFault
        rw [if_neg (by simp [h1]), if_pos h2]
      have HNZ := Lib.hid h2
      have t2 : ((hunksFault l).2 == 0) = false := by simp [h2]
      clear h1 h2
      go_enter Tryd.func6, Tryd.ntmps6
      go_wp2_with fail
      refine (refLines_any a _ _ ha).mono ?_
      rintro e w1 ⟨rfl, hw⟩
      rw [H1.out]
      go_wp2_with fail
      refine (refHunks_any l _ _ (hl.never hw)).mono ?_
      rintro e w2 ⟨rfl, hc2⟩
      have hw := hw.trans hc2
      clear hc2
      skip
      go_wp2_with fail
      have HR : Hid (looseR a l fuzz far = ([], [], [])) := if_neg (by rw [HF.out]; exact HNZ.out)
      refine (loose_any a l fuzz far _ _ _ (ha.never hw) (hl.never hw)).mono ?_
      rintro e w3 ⟨x1, x2, x3, rfl, hc3, hx1, hx2, hx3⟩
      have hw := hw.trans hc3
      have hy1 := (rdv_nil (α := ByteArray) _ Never).never hc3
      have hy2 := (rdv_nil (α := Hunk) _ Never).never hc3
      have hy3 := (rdv_nil (α := Int) _ Never).never hc3
      have hx1 := hx1.sub (O' := Never) (fun _ _ h => h.elim)
      have hx2 := hx2.sub (O' := Never) (fun _ _ h => h.elim)
      have hx3 := hx3.sub (O' := Never) (fun _ _ h => h.elim)
      clear hc3
      rw [HF.out]
      rw [HR.out] at hx1 hx2 hx3
      go_wp2_with fail
      refine (error_any _ _ _ (hw.cellNever hg)).mono ?_
      rintro e' w4 ⟨rfl, hc4⟩
      have hw := hw.trans hc4
      have hx1 := hx1.never hc4
      have hx2 := hx2.never hc4
      have hx3 := hx3.never hc4
      have hy1 := hy1.never hc4
      have hy2 := hy2.never hc4
      have hy3 := hy3.never hc4
      clear hc4
      rw [beq_self_eq_true]
      go_wp2_with fail
      refine (texts_any _ _ _ _ _ hx1 hy1).mono ?_
      rintro e w5 ⟨rfl, hc5⟩
      have hw := hw.trans hc5
      have hx2 := hx2.never hc5
      have hx3 := hx3.never hc5
      have hy2 := hy2.never hc5
      have hy3 := hy3.never hc5
      rw [decide_eq_true rfl]
      clear hc5 hx1 hy1
      go_wp2_with fail
      refine (hunks_eq_any _ _ _ _ _ hx2 hy2).mono ?_
      rintro e w6 ⟨rfl, hc6⟩
      have hw := hw.trans hc6
      have hx3 := hx3.never hc6
      have hy3 := hy3.never hc6
      rw [decide_eq_true rfl]
      clear hc6 hx2 hy2
      go_wp2_with fail
      refine (ints_any _ _ _ _ _ hx3 hy3).mono ?_
      rintro e w7 ⟨rfl, hc7⟩
      have hw := hw.trans hc7
      rw [decide_eq_true rfl]
      clear hc7 hx3 hy3
      go_wp2_with fail
      go_ret
      exact ⟨rfl, hw⟩
  · have HF : Hid (looseFault a l fuzz far = linesFault a) := if_pos h1
    have HNZ := Lib.hid h1
    have t2 : (linesFault a == 0) = false := by simp [h1]
    clear h1
    go_enter Tryd.func6, Tryd.ntmps6
    go_wp2_with fail
    refine (refLines_any a _ _ ha).mono ?_
    rintro e w1 ⟨rfl, hw⟩
    skip
    go_wp2_with fail
    have HR : Hid (looseR a l fuzz far = ([], [], [])) := if_neg (by rw [HF.out]; exact HNZ.out)
    refine (loose_any a l fuzz far _ _ _ (ha.never hw) (hl.never hw)).mono ?_
    rintro e w3 ⟨x1, x2, x3, rfl, hc3, hx1, hx2, hx3⟩
    have hw := hw.trans hc3
    have hy1 := (rdv_nil (α := ByteArray) _ Never).never hc3
    have hy2 := (rdv_nil (α := Hunk) _ Never).never hc3
    have hy3 := (rdv_nil (α := Int) _ Never).never hc3
    have hx1 := hx1.sub (O' := Never) (fun _ _ h => h.elim)
    have hx2 := hx2.sub (O' := Never) (fun _ _ h => h.elim)
    have hx3 := hx3.sub (O' := Never) (fun _ _ h => h.elim)
    clear hc3
    rw [HF.out]
    rw [HR.out] at hx1 hx2 hx3
    go_wp2_with fail
    refine (error_any _ _ _ (hw.cellNever hg)).mono ?_
    rintro e' w4 ⟨rfl, hc4⟩
    have hw := hw.trans hc4
    have hx1 := hx1.never hc4
    have hx2 := hx2.never hc4
    have hx3 := hx3.never hc4
    have hy1 := hy1.never hc4
    have hy2 := hy2.never hc4
    have hy3 := hy3.never hc4
    clear hc4
    rw [beq_self_eq_true]
    go_wp2_with fail
    refine (texts_any _ _ _ _ _ hx1 hy1).mono ?_
    rintro e w5 ⟨rfl, hc5⟩
    have hw := hw.trans hc5
    have hx2 := hx2.never hc5
    have hx3 := hx3.never hc5
    have hy2 := hy2.never hc5
    have hy3 := hy3.never hc5
    rw [decide_eq_true rfl]
    clear hc5 hx1 hy1
    go_wp2_with fail
    refine (hunks_eq_any _ _ _ _ _ hx2 hy2).mono ?_
    rintro e w6 ⟨rfl, hc6⟩
    have hw := hw.trans hc6
    have hx3 := hx3.never hc6
    have hy3 := hy3.never hc6
    rw [decide_eq_true rfl]
    clear hc6 hx2 hy2
    go_wp2_with fail
    refine (ints_any _ _ _ _ _ hx3 hy3).mono ?_
    rintro e w7 ⟨rfl, hc7⟩
    have hw := hw.trans hc7
    rw [decide_eq_true rfl]
    clear hc7 hx3 hy3
    go_wp2_with fail
    go_ret
    exact ⟨rfl, hw⟩
end Go.Proofs.YtlflhehlbnbhgaaDoor
