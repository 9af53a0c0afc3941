/-
  PARTS: THE WALKS of patch.shape, one, Check.; PATCHES AS TEXTS, in plain Lean: the document's reading of a change's two lines is the program's; the loop's steps.
-/
import Derived.Test.YtjiaidchcldocaaGreatDoorPg15
import Derived.BigQuiet
import Derived.Test.YtjiaidchcldocaaGreatDoorPg6
set_option linter.unusedVariables false
set_option linter.unusedSimpArgs false
namespace Go.Proofs.YtjiaidchcldocaaGreatDoor
open Go.RowKit

set_option maxHeartbeats 1000000 in
set_option maxRecDepth 100000 in
theorem shape_any (c : Change) (v : Value) (w : World) (h : Rdv w Never v c.hunks) :
    Calls Tryz.prog 166 #[.agg #[.int .i64 c.what, .string c.path, v]] w fun e w' => e = .returned (.bool (shapeB c)) ∧ Chg Never w w' := by
  obtain ⟨a, cap, rfl, h1, h2, _⟩ := rdv_slice h
  obtain ⟨hA, b0, b1, b2⟩ := box1_change w 85 c.what c.path (.slice a c.hunks.length cap) _ rfl
  by_cases k2 : c.what = 2
  · have E : Hid (shapeB c = wholeB c.hunks 43) := if_pos k2
    have t2 : (c.what == 2) = true := by simp [k2]
    clear k2
    go_enter Tryz.func166, Tryz.ntmps166
    go_wp2_with fail
    refine (whole_any c 43 _ _ (h.never hA)).mono ?_
    rintro e w2 ⟨rfl, hc2⟩
    go_wp2_with fail
    go_ret
    exact ⟨by rw [E.out]; rfl, hA.trans hc2⟩
  · have t2 : (c.what == 2) = false := by simp [k2]
    by_cases k3 : c.what = 3
    · have E : Hid (shapeB c = wholeB c.hunks 45) := by unfold Hid shapeB; rw [if_neg k2, if_pos k3]
      have t3 : (c.what == 3) = true := by simp [k3]
      clear k2 k3
      go_enter Tryz.func166, Tryz.ntmps166
      go_wp2_with fail
      refine (whole_any c 45 _ _ (h.never hA)).mono ?_
      rintro e w2 ⟨rfl, hc2⟩
      go_wp2_with fail
      go_ret
      exact ⟨by rw [E.out]; rfl, hA.trans hc2⟩
    · have E : Hid (shapeB c = decide (0 < c.hunks.length)) := by
        unfold Hid shapeB
        rw [if_neg k2, if_neg k3]
        cases c.hunks <;> simp
      have t3 : (c.what == 3) = false := by simp [k3]
      clear k2 k3
      go_enter Tryz.func166, Tryz.ntmps166
      go_wp2_with fail
      go_ret
      exact ⟨by rw [E.out]; rfl, hA⟩
theorem cf_rng {c : Change} (h : c.what < 1 ∨ 3 < c.what) : changeFault c = 1 := if_pos h
theorem cf_path {c : Change} (h : ¬ (c.what < 1 ∨ 3 < c.what)) (g : pathFault c.path ≠ 0) : changeFault c = pathFault c.path := by unfold changeFault; rw [if_neg h, if_pos g]
theorem cf_hunks {c : Change} (h : ¬ (c.what < 1 ∨ 3 < c.what)) (g : pathFault c.path = 0) (k : (hunksFault c.hunks).2 ≠ 0) : changeFault c = (hunksFault c.hunks).2 := by unfold changeFault; rw [if_neg h, if_neg (by rw [g]; decide), if_pos k]
theorem cf_shape {c : Change} (h : ¬ (c.what < 1 ∨ 3 < c.what)) (g : pathFault c.path = 0) (k : (hunksFault c.hunks).2 = 0) (s : shapeB c = false) : changeFault c = 2 := by unfold changeFault; rw [if_neg h, if_neg (by rw [g]; decide), if_neg (by rw [k]; decide), if_neg (by rw [s]; decide)]
theorem cf_ok {c : Change} (h : ¬ (c.what < 1 ∨ 3 < c.what)) (g : pathFault c.path = 0) (k : (hunksFault c.hunks).2 = 0) (s : shapeB c = true) : changeFault c = 0 := by unfold changeFault; rw [if_neg h, if_neg (by rw [g]; decide), if_neg (by rw [k]; decide), if_pos s]
set_option maxHeartbeats 2000000 in
set_option maxRecDepth 100000 in
theorem patch_one_any (c : Change) (v : Value) (w : World) (h : Rdv w Never v c.hunks) (m : Int) (hm : w.cell? ⟨1, 0, none⟩ = some (.int .i64 m)) :
    Calls Tryz.prog 113 #[.agg #[.int .i64 c.what, .string c.path, v]] w fun e w' => e = .returned (errV (changeFault c)) ∧ Chg Never w w' := by
  obtain ⟨a, cap, rfl, h1, h2, _⟩ := rdv_slice h
  obtain ⟨hA, b0, b1, b2⟩ := box1_change w 85 c.what c.path (.slice a c.hunks.length cap) _ rfl
  by_cases r : c.what < 1 ∨ 3 < c.what
  · rw [cf_rng r]
    rcases r with r | r
    · go_enter Tryz.func113, Tryz.ntmps113
      go_wp2_with fail
      go_ret
      exact ⟨rfl, hA⟩
    · have r0 : ¬ c.what < 1 := by omega
      go_enter Tryz.func113, Tryz.ntmps113
      go_wp2_with fail
      go_ret
      exact ⟨rfl, hA⟩
  · have r0 : ¬ c.what < 1 := by omega
    have r1 : ¬ 3 < c.what := by omega
    by_cases z : pathFault c.path = 0
    · have Z := Lib.hid z
      by_cases y : (hunksFault c.hunks).2 = 0
      · have Y := Lib.hid y
        cases s : shapeB c with
        | true =>
          have E := Lib.hid (cf_ok r z y s)
          have S := Lib.hid s
          clear r z y s
          go_enter Tryz.func113, Tryz.ntmps113
          go_wp2_with fail
          generalize w.alloc (.cells #[.int .i64 c.what, .string c.path, .slice a c.hunks.length cap] 85) = wA at hA b0 b1 b2 ⊢
          refine (line_path_any c.path _ m (hA.cellNever hm)).mono ?_
          rintro e w2 ⟨rfl, hc2⟩
          have hw := hA.trans hc2
          have b0 := hc2.cellNever b0
          have b1 := hc2.cellNever b1
          have b2 := hc2.cellNever b2
          clear hc2
          rw [Z.out, errV_zero]
          go_wp2_with fail
          refine (hunk_check_any c.hunks _ _ (h.never hw)).mono ?_
          rintro e w3 ⟨rfl, hc3⟩
          have hw := hw.trans hc3
          have b0 := hc3.cellNever b0
          have b1 := hc3.cellNever b1
          have b2 := hc3.cellNever b2
          clear hc3
          rw [Y.out, errV_zero]
          go_wp2_with fail
          refine (shape_any c _ _ (h.never hw)).mono ?_
          rintro e w4 ⟨rfl, hc4⟩
          rw [S.out]
          clear b0 b1 b2
          go_wp2_with fail
          go_ret
          exact ⟨by rw [E.out]; rfl, hw.trans hc4⟩
        | false =>
          have E := Lib.hid (cf_shape r z y s)
          have S := Lib.hid s
          clear r z y s
          go_enter Tryz.func113, Tryz.ntmps113
          go_wp2_with fail
          generalize w.alloc (.cells #[.int .i64 c.what, .string c.path, .slice a c.hunks.length cap] 85) = wA at hA b0 b1 b2 ⊢
          refine (line_path_any c.path _ m (hA.cellNever hm)).mono ?_
          rintro e w2 ⟨rfl, hc2⟩
          have hw := hA.trans hc2
          have b0 := hc2.cellNever b0
          have b1 := hc2.cellNever b1
          have b2 := hc2.cellNever b2
          clear hc2
          rw [Z.out, errV_zero]
          go_wp2_with fail
          refine (hunk_check_any c.hunks _ _ (h.never hw)).mono ?_
          rintro e w3 ⟨rfl, hc3⟩
          have hw := hw.trans hc3
          have b0 := hc3.cellNever b0
          have b1 := hc3.cellNever b1
          have b2 := hc3.cellNever b2
          clear hc3
          rw [Y.out, errV_zero]
          go_wp2_with fail
          refine (shape_any c _ _ (h.never hw)).mono ?_
          rintro e w4 ⟨rfl, hc4⟩
          rw [S.out]
          clear b0 b1 b2
          go_wp2_with fail
          go_ret
          exact ⟨by rw [E.out]; rfl, hw.trans hc4⟩
      · have E := Lib.hid (cf_hunks r z y)
        have Y := Lib.hid y
        clear r z y
        go_enter Tryz.func113, Tryz.ntmps113
        go_wp2_with fail
        generalize w.alloc (.cells #[.int .i64 c.what, .string c.path, .slice a c.hunks.length cap] 85) = wA at hA b0 b1 b2 ⊢
        refine (line_path_any c.path _ m (hA.cellNever hm)).mono ?_
        rintro e w2 ⟨rfl, hc2⟩
        have hw := hA.trans hc2
        have b0 := hc2.cellNever b0
        have b1 := hc2.cellNever b1
        have b2 := hc2.cellNever b2
        clear hc2
        rw [Z.out, errV_zero]
        go_wp2_with fail
        refine (hunk_check_any c.hunks _ _ (h.never hw)).mono ?_
        rintro e w3 ⟨rfl, hc3⟩
        have hw := hw.trans hc3
        have b0 := hc3.cellNever b0
        have b1 := hc3.cellNever b1
        have b2 := hc3.cellNever b2
        clear hc3
        rw [errV_pos Y.out]
        clear b0 b1 b2
        go_wp2_with fail
        go_ret
        exact ⟨by rw [E.out, errV_pos Y.out]; rfl, hw⟩
    · have E := Lib.hid (cf_path r z)
      have Z := Lib.hid z
      clear r z
      go_enter Tryz.func113, Tryz.ntmps113
      go_wp2_with fail
      generalize w.alloc (.cells #[.int .i64 c.what, .string c.path, .slice a c.hunks.length cap] 85) = wA at hA b0 b1 b2 ⊢
      refine (line_path_any c.path _ m (hA.cellNever hm)).mono ?_
      rintro e w2 ⟨rfl, hc2⟩
      have hw := hA.trans hc2
      have b0 := hc2.cellNever b0
      have b1 := hc2.cellNever b1
      have b2 := hc2.cellNever b2
      clear hc2
      rw [errV_pos Z.out]
      clear b0 b1 b2
      go_wp2_with fail
      go_ret
      exact ⟨by rw [E.out, errV_pos Z.out]; rfl, hw⟩
/-! ### Check -/
def prevC (t : List Change) (k : Nat) : Option ByteArray := if k = 0 then none else (t[k - 1]?).map (·.path)
theorem prevC_succ {t : List Change} {k : Nat} {f : Change} (h : t[k]? = some f) : prevC t (k + 1) = some f.path := by unfold prevC; simp [h]
theorem patchGo_next {t : List Change} {k : Nat} {f : Change} {prev : Option ByteArray} (hd : t.drop k = f :: t.drop (k + 1)) (h1 : changeFault f = 0) (h2 : prev.any (fun p => leqB f.path p) = false) : patchGo k prev (t.drop k) = patchGo (k + 1) (some f.path) (t.drop (k + 1)) := by
  rw [hd, patchGo, if_neg (by simp [h1]), if_neg (by rw [h2]; decide)]
theorem patchGo_bad {t : List Change} {k : Nat} {f : Change} {prev : Option ByteArray} (hd : t.drop k = f :: t.drop (k + 1)) (h1 : changeFault f ≠ 0) : patchGo k prev (t.drop k) = (k, changeFault f) := by
  rw [hd, patchGo, if_pos h1]
theorem patchGo_order {t : List Change} {k : Nat} {f : Change} {p : ByteArray} (hd : t.drop k = f :: t.drop (k + 1)) (h1 : changeFault f = 0) (h2 : leqB f.path p = true) : patchGo k (some p) (t.drop k) = (k, 2) := by
  rw [hd, patchGo, if_neg (by simp [h1]), if_pos (by simpa using h2)]
theorem patchGo_end {t : List Change} {prev : Option ByteArray} : patchGo t.length prev (t.drop t.length) = (0, 0) := by rw [List.drop_length]; rfl
set_option maxHeartbeats 2000000 in
set_option maxRecDepth 100000 in
theorem patch_check_any (t : List Change) (v : Value) (w : World) (h : Rdv w Never v t) (m : Int) (hm : w.cell? ⟨1, 0, none⟩ = some (.int .i64 m)) :
    Calls Tryz.prog 70 #[v] w fun e w' => e = .returned (.tuple #[.int .i64 (patchFault t).1, errV (patchFault t).2]) ∧ Chg Never w w' := by
  obtain ⟨a, cap, rfl, h1, h2, h3⟩ := rdv_slice h
  unfold maxLen at h2
  by_cases h8 : 16 < t.length
  · have HF : Hid (patchFault t = (0, 3)) := if_pos h8
    go_enter Tryz.func70, Tryz.ntmps70
    go_wp2_with fail
    go_ret2
    exact ⟨by rw [HF.out]; rfl, Chg.refl _ _⟩
  · have HF : Hid (patchFault t = patchGo 0 (prevC t 0) (t.drop 0)) := if_neg h8
    go_enter Tryz.func70, Tryz.ntmps70
    go_wp2_with fail
    go_loopw [13] (fun i wr => ∃ k : Nat, k ≤ t.length ∧ i = .int .i64 k ∧ Chg Never w wr ∧ Hid (patchFault t = patchGo k (prevC t k) (t.drop k))) (fun i _ => t.length - (intOf i).toNat)
    case atStart => exact ⟨0, Nat.zero_le _, rfl, Chg.refl _ _, HF.out⟩
    case round =>
      clear HF
      obtain ⟨k, hk, rfl, hc, hG⟩ := hrel
      by_cases hlt : k < t.length
      · obtain ⟨x, hx⟩ : ∃ x, t[k]? = some x := ⟨t[k], by simp [hlt]⟩
        obtain ⟨b, off, lv, rfl, _, _, c0, c1, c2, hps, hlv⟩ := elems_change h3 hx
        obtain ⟨la, lcap, rfl, _, _, _⟩ := rdv_slice hlv
        have c0 := hc.cellNever c0
        have c1 := hc.cellNever c1
        have c2 := hc.cellNever c2
        have hlv := hlv.never hc
        have HD := Lib.hid (drop_eq hx)
        have HPV := Lib.hid (prevC_succ hx)
        have HX := Lib.hid hx
        obtain ⟨hA, b0, b1, b2⟩ := box1_change wr 85 x.what x.path (.slice la x.hunks.length lcap) _ rfl
        clear hx
        by_cases p0 : changeFault x = 0
        · have HFF := Lib.hid p0
          clear p0
          go_wp2_with fail
          generalize wr.alloc (.cells #[.int .i64 x.what, .string x.path, .slice la x.hunks.length lcap] 85) = w3 at hA b0 b1 b2 ⊢
          have hc3 := hc.trans hA
          refine (patch_one_any x _ _ (hlv.never hA) m (hc3.cellNever hm)).mono ?_
          rintro e w4 ⟨rfl, hc4⟩
          have b1 := hc4.cellNever b1
          have hcD := hc3.trans hc4
          clear hc4 hc3 hA c0 c1 c2 b0 b2
          rw [HFF.out, errV_zero]
          rcases Nat.eq_zero_or_pos k with h0 | h0
          · subst h0
            have HNX : Hid (patchFault t = patchGo (0 + 1) (prevC t (0 + 1)) (t.drop (0 + 1))) := by rw [Hid, HPV.out, hG.out]; exact patchGo_next HD.out HFF.out rfl
            clear hG
            go_wp2_with fail
            go_quiet (fail)
            go_wp2_with fail
            go_roundw
            case rel => exact ⟨0 + 1, by omega, by go_num, hcD.drewN _, HNX⟩
            case measure => simp [intOf] <;> omega
          · obtain ⟨k', rfl⟩ : ∃ k', k = k' + 1 := ⟨k - 1, by omega⟩
            obtain ⟨y, hy⟩ : ∃ y, t[k']? = some y := ⟨t[k']'(by omega), by simp [show k' < t.length by omega]⟩
            obtain ⟨b', off', lv', hbo, _, _, _, y0, _, _, _⟩ := elems_change h3 hy
            simp only [Option.some.injEq, Addr.mk.injEq, and_true] at hbo
            obtain ⟨rfl, rfl⟩ := hbo
            have y0 := hcD.cellNever y0
            have HPY : Hid (prevC t (k' + 1) = some y.path) := prevC_succ hy
            have z1 : (k' : Int) + 1 - 1 = k' := by omega
            have z2 : decide ((0 : Int) < (k' : Int) + 1) = true := decide_eq_true (by omega)
            clear hy
            rcases less_tri x.path y.path with g | g | g
            · have HE : Hid (patchFault t = (k' + 1, 2)) := by rw [Hid, hG.out, HPY.out]; exact patchGo_order HD.out HFF.out (leqB_true.2 (less_asymm g))
              have a1 : Op.bytesLess x.path.toList y.path.toList = true := g
              clear g hG
              go_wp2_with fail
              go_quiet (fail)
              go_wp2_with fail; go_ret2; exact ⟨by rw [HE.out]; rfl, hcD.drewN _⟩
            · have HE : Hid (patchFault t = (k' + 1, 2)) := by rw [Hid, hG.out, HPY.out]; exact patchGo_order HD.out HFF.out (leqB_true.2 (by rw [g]; exact less_irrefl _))
              have a1 : Op.bytesLess x.path.toList y.path.toList = false := by rw [g]; exact bl_irrefl _
              have a2 : (x.path.toList == y.path.toList) = true := by rw [g]; exact beq_self_eq_true _
              clear g hG
              go_wp2_with fail
              go_quiet (fail)
              go_wp2_with fail; go_ret2; exact ⟨by rw [HE.out]; rfl, hcD.drewN _⟩
            · have HNX : Hid (patchFault t = patchGo (k' + 1 + 1) (prevC t (k' + 1 + 1)) (t.drop (k' + 1 + 1))) := by
                rw [Hid, HPV.out, hG.out]
                refine patchGo_next HD.out HFF.out ?_
                rw [HPY.out, Option.any_some, Bool.eq_false_iff]
                intro e
                rw [leqB_true.1 e] at g; cases g
              have a1 : Op.bytesLess x.path.toList y.path.toList = false := less_asymm g
              have a2 := str_beq_false (less_ne g).symm
              clear g hG
              go_wp2_with fail
              go_quiet (fail)
              go_wp2_with fail
              go_roundw
              case rel => exact ⟨k' + 1 + 1, by omega, by go_num, hcD.drewN _, HNX⟩
              case measure => simp [intOf] <;> omega
        · have HE : Hid (patchFault t = (k, changeFault x)) := by rw [Hid, hG.out, patchGo_bad HD.out p0]
          have P0 := Lib.hid p0
          clear p0 hG
          go_wp2_with fail
          generalize wr.alloc (.cells #[.int .i64 x.what, .string x.path, .slice la x.hunks.length lcap] 85) = w3 at hA b0 b1 b2 ⊢
          have hc3 := hc.trans hA
          refine (patch_one_any x _ _ (hlv.never hA) m (hc3.cellNever hm)).mono ?_
          rintro e w4 ⟨rfl, hc4⟩
          have b1 := hc4.cellNever b1
          have hcD := hc3.trans hc4
          clear hc4 hc3 hA c0 c1 c2 b0 b2
          rw [errV_pos P0.out]
          go_wp2_with fail
          go_ret2
          exact ⟨by rw [HE.out, errV_pos P0.out]; rfl, hcD⟩
      · obtain rfl : k = t.length := by omega
        have e := hG.out
        rw [patchGo_end] at e
        have HE := Lib.hid e
        clear hG e
        go_wp2_with fail
        go_ret2
        exact ⟨by rw [HE.out]; rfl, hc⟩
end Go.Proofs.YtjiaidchcldocaaGreatDoor
namespace Go.Proofs.YtjiaidchcldocaaGreatDoor

/-! ### the loop -/
/-- what is read from a place on, behind what has been read -/
def ChgsInv (l : List (List UInt8)) (at_ : Nat) (L : List Change) : Prop := ∃ k, (l.drop at_).length ≤ k ∧ (changesG k (l.drop at_)).map (L ++ ·) = changesG l.length l
theorem cinv_start (l : List (List UInt8)) : ChgsInv l 0 [] := ⟨l.length, by simp, by simp⟩
theorem cinv_end {l : List (List UInt8)} {i : Nat} {L : List Change} (h : ChgsInv l i L) (hi : l.length ≤ i) : changesG l.length l = some L := by
  obtain ⟨k, _, h⟩ := h
  rw [List.drop_of_length_le hi, changesG] at h
  rw [← h]; simp
theorem cinv_one {l : List (List UInt8)} {i : Nat} {L : List Change} (h : ChgsInv l i L) (hi : i + 1 = l.length) : changesG l.length l = none := by
  obtain ⟨k, hk, h⟩ := h
  have hx : (l.drop i).length = 1 := by rw [List.length_drop]; omega
  obtain ⟨x, hx⟩ := List.length_eq_one_iff.1 hx
  rw [hx] at h hk
  obtain ⟨k, rfl⟩ : ∃ j, k = j + 1 := ⟨k - 1, by simp at hk; omega⟩
  rw [← h, changesG]; rfl
theorem cinv_head {l : List (List UInt8)} {i : Nat} {L : List Change} (h : ChgsInv l i L) {a b : List UInt8} {r : List (List UInt8)} (hd : l.drop i = a :: b :: r) (hh : headedL a b = none) : changesG l.length l = none := by
  obtain ⟨k, hk, h⟩ := h
  rw [hd] at h hk
  obtain ⟨k, rfl⟩ : ∃ j, k = j + 1 := ⟨k - 1, by simp at hk; omega⟩
  rw [← h, changesG, hh]; rfl
theorem cinv_take {l : List (List UInt8)} {i : Nat} {L : List Change} (h : ChgsInv l i L) {a b : List UInt8} {r : List (List UInt8)} (hd : l.drop i = a :: b :: r) {w : Int} {p : List UInt8} (hh : headedL a b = some (w, p)) (ht : takeU r [] 0 0 = none) : changesG l.length l = none := by
  obtain ⟨k, hk, h⟩ := h
  rw [hd] at h hk
  obtain ⟨k, rfl⟩ : ∃ j, k = j + 1 := ⟨k - 1, by simp at hk; omega⟩
  rw [← h, changesG, hh]
  simp only
  rw [ht]; rfl
theorem cinv_step {l : List (List UInt8)} {i j : Nat} {L : List Change} (h : ChgsInv l i L) {a b : List UInt8} {r : List (List UInt8)} (hd : l.drop i = a :: b :: r) {w : Int} {p : List UInt8} (hh : headedL a b = some (w, p)) {hs : List Hunk} (ht : takeU r [] 0 0 = some (hs, l.drop j)) (hj : i + 2 ≤ j) : ChgsInv l j (L ++ [⟨w, toB p, hs⟩]) := by
  obtain ⟨k, hk, h⟩ := h
  have hl : (l.drop i).length = r.length + 2 := by rw [hd]; rfl
  rw [hd] at h hk
  obtain ⟨k, rfl⟩ : ∃ j, k = j + 1 := ⟨k - 1, by simp at hk; omega⟩
  refine ⟨k, ?_, ?_⟩
  · rw [List.length_drop] at hl ⊢
    simp at hk
    omega
  · rw [← h, changesG, hh]
    simp only
    rw [ht]
    simp only
    cases changesG k (l.drop j) with
    | none => rfl
    | some q => simp
theorem parseG_none {s : List UInt8} (h : changesG (parts 10 s).dropLast.length (parts 10 s).dropLast = none) : parseG s = ([], 5) := by
  unfold parseG
  by_cases hl : 400000 < s.length
  · rw [if_pos hl]
  · rw [if_neg hl, h]
theorem parseG_some {s : List UInt8} {p : List Change} (hl : s.length ≤ 400000) (h : changesG (parts 10 s).dropLast.length (parts 10 s).dropLast = some p) (hx : (parts 10 s).getLast? = some []) : parseG s = if (patchFault p).2 ≠ 0 then ([], (patchFault p).2) else (p, 0) := by
  unfold parseG
  rw [if_neg (by omega), h]
  simp only
  rw [if_neg (by simpa using hx)]
theorem parseG_last {s : List UInt8} (hx : (parts 10 s).getLast? ≠ some []) : parseG s = ([], 5) := by
  unfold parseG
  by_cases hl : 400000 < s.length
  · rw [if_pos hl]
  · rw [if_neg hl]
    cases changesG (parts 10 s).dropLast.length (parts 10 s).dropLast with
    | none => rfl
    | some p => simp only; rw [if_pos hx]
end Go.Proofs.YtjiaidchcldocaaGreatDoor
