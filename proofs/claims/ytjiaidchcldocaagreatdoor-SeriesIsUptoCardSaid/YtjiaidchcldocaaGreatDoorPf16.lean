/-
  PARTS: THE LAW SeriesIs, walked.
-/
import Derived.Test.YtjiaidchcldocaaGreatDoorPf13
import Derived.Test.YtjiaidchcldocaaGreatDoorPf14
import Derived.Test.YtjiaidchcldocaaGreatDoorPf15
import Derived.Test.YtjiaidchcldocaaGreatDoorPf1
set_option linter.unusedVariables false
set_option linter.unusedSimpArgs false
namespace Go.Proofs.YtjiaidchcldocaaGreatDoor
open Go.RowKit

theorem runF_tree {t : List File} {l : List Mail} (h : (treeFault t).2 ≠ 0) : runF t l = (treeFault t).2 := if_pos h
theorem runF_open {t : List File} {l : List Mail} (h : (treeFault t).2 = 0) (g : (openMs l).2.2 ≠ 0) : runF t l = (openMs l).2.2 := by
  unfold runF
  rw [if_neg (by rw [h]; simp), if_pos g]
theorem runF_go {t : List File} {l : List Mail} (h : (treeFault t).2 = 0) (g : (openMs l).2.2 = 0) : runF t l = (runGoS t (openMs l).2.1).2 := by
  unfold runF
  rw [if_neg (by rw [h]; simp), if_neg (by rw [g]; simp)]
def RunInv (t : List File) (l : List Mail) (f : Int) (x : List File) (k : Nat) : Prop :=
  (f = 0 → (treeFault t).2 = 0 ∧ (openMs l).2.2 = 0 ∧ runGoS x ((openMs l).2.1.drop k) = runGoS t (openMs l).2.1) ∧ (f ≠ 0 → runF t l = f)
theorem runInv_start (t : List File) (l : List Mail) (f : Int) (hf : f = if (treeFault t).2 = 0 then (openMs l).2.2 else (treeFault t).2) : RunInv t l f t 0 := by
  subst hf
  by_cases h : (treeFault t).2 = 0
  · rw [if_pos h]
    exact ⟨fun g => ⟨h, g, rfl⟩, fun g => runF_open h g⟩
  · rw [if_neg h]
    exact ⟨fun g => absurd g h, fun _ => runF_tree h⟩
theorem runInv_step {t x : List File} {l : List Mail} {k : Nat} {c : List Change} (h : RunInv t l 0 x k) (hx : (openMs l).2.1[k]? = some c) : RunInv t l (applyR x c).2.2 (applyR x c).1 (k + 1) := by
  obtain ⟨h1, h2, h3⟩ := h.1 rfl
  obtain ⟨s1, s2⟩ := runGo_step h3 hx
  exact ⟨fun z => ⟨h1, h2, s1 z⟩, fun z => by rw [runF_go h1 h2, s2 z]⟩
theorem runInv_end {t x : List File} {l : List Mail} {k : Nat} (h : RunInv t l 0 x k) (hk : (openMs l).2.1.length ≤ k) : runF t l = 0 ∧ runR t l = x := by
  obtain ⟨h1, h2, h3⟩ := h.1 rfl
  rw [List.drop_of_length_le hk, runGoS] at h3
  have hf : runF t l = 0 := by rw [runF_go h1 h2, ← h3]
  refine ⟨hf, ?_⟩
  unfold runR
  rw [if_pos hf, ← h3]
theorem runInv_bad {t x : List File} {l : List Mail} {k : Nat} {f : Int} (h : RunInv t l f x k) (hf : f ≠ 0) : runF t l = f ∧ runR t l = [] := by
  have := h.2 hf
  refine ⟨this, ?_⟩
  unfold runR
  rw [if_neg (by rw [this]; exact hf)]
set_option maxHeartbeats 1000000 in
set_option maxRecDepth 100000 in
theorem law_seriesIs (ti : ByteArray) (p : List (List Change)) (l : List Mail) (t : List File) (vp vl vt : Value) (w : World) (hti : ti.size ≤ 1048576) (hp : Rdv w Never vp p) (hl : Rdv w Never vl l) (hid : ∀ y ∈ l, y.ident.size ≤ 1000000000) (hl9 : l.length ≤ 1000000000) (ht : Rdv w Never vt t) (m : Int) (_hm : w.cell? ⟨1, 0, none⟩ = some (.int .i64 m)) (hg : Globs w m) (he : w.cell? ⟨0, 0, none⟩ = some errT) :
    Calls Tryz.prog 5 #[.string ti, vp, vl, vt] w fun e w' => e = .returned (.bool true) ∧ Chg Never w w' := by
  go_enter Tryz.func5, Tryz.ntmps5
  go_wp2_with fail
  refine (refPackOf_any ti p _ _ hp (by omega)).mono ?_
  rintro e w1 ⟨r1, rfl, hw, hr1⟩
  obtain ⟨a1, c1, rfl, _, _, _⟩ := rdv_slice hr1
  go_wp2_with fail
  refine (pack_any ti p _ _ (hp.never hw) (by omega) m (hg.never hw).ml).mono ?_
  rintro e w2 ⟨r2, rfl, hc2, hr2⟩
  have hw := hw.trans hc2
  have hr1 := hr1.never hc2
  generalize packF ti.data.toList p = pf
  generalize packR ti.data.toList p = pr at hr1 hr2 ⊢
  obtain ⟨a2, c2, rfl, _, _, _⟩ := rdv_slice hr2
  clear hc2
  go_wp2_with fail
  refine (error_any pf pf _ (hw.cellNever he)).mono ?_
  rintro e w3 ⟨rfl, hc3⟩
  have hw := hw.trans hc3
  have hr1 := hr1.never hc3
  have hr2 := hr2.never hc3
  rw [beq_self_eq_true]
  clear hc3
  go_wp2_with fail
  refine (mails_same pr _ _ _ hr2 hr1).mono ?_
  rintro e w4 ⟨rfl, hc4⟩
  have hw := hw.trans hc4
  clear hc4 hr1 hr2
  go_wp2_with fail
  refine (refOpenOf_any l _ _ (hl.never hw) hl9 hid).mono ?_
  rintro e w5 ⟨r5, rfl, hc5, hr5⟩
  have hw := hw.trans hc5
  obtain ⟨a5, c5, rfl, _, _, _⟩ := rdv_slice hr5
  clear hc5
  go_wp2_with fail
  refine (sopen_any l _ _ (hl.never hw) hl9 m (hg.never hw)).mono ?_
  rintro e w6 ⟨r6, rfl, hc6, hr6⟩
  have hw := hw.trans hc6
  have hr5 := hr5.never hc6
  obtain ⟨a6, c6, rfl, _, _, _⟩ := rdv_slice hr6
  have HI0 := Lib.hid (fun f hf => runInv_start t l f hf)
  obtain ⟨q, hq⟩ : ∃ q, (openMs l).2.1 = q := ⟨_, rfl⟩
  obtain ⟨ef, hef⟩ : ∃ ef, (openMs l).2.2 = ef := ⟨_, rfl⟩
  obtain ⟨T, hT⟩ : ∃ T, toB (openMs l).1 = T := ⟨_, rfl⟩
  rw [hq] at hr5 hr6
  rw [hef] at HI0
  rw [hq, hef, hT]
  have HQ := Lib.hid hq
  have tt : (T.toList == T.toList) = true := by simp
  have tt2 : (T.toList != T.toList) = false := by simp
  clear hc6 hq hef hT
  go_wp2_with fail
  refine (error_any ef ef _ (hw.cellNever he)).mono ?_
  rintro e w7 ⟨rfl, hc7⟩
  have hw := hw.trans hc7
  have hr5 := hr5.never hc7
  have hr6 := hr6.never hc7
  rw [beq_self_eq_true]
  clear hc7
  go_wp2_with fail
  refine (series_any q q _ _ _ hr6 hr5).mono ?_
  rintro e w8 ⟨rfl, hc8⟩
  have hw := hw.trans hc8
  have hr5 := hr5.never hc8
  rw [decide_eq_true rfl]
  clear hc8 hr6
  go_wp2_with fail
  clear tt tt2
  refine (refTree_any t _ _ (ht.never hw)).mono ?_
  rintro e w9 ⟨rfl, hc9⟩
  have hw9 := hw.trans hc9
  have ht9 := ht.never hw9
  obtain ⟨_, _, _, qz, qy, q3⟩ := rdv_slice hr5
  have hqm : q.length ≤ 9223372036854775807 := by simp only [maxLen] at qy; omega
  have HQ9 := Lib.hid hc9
  clear hw hc9
  generalize (treeFault t).1 = ti1
  by_cases hz : (treeFault t).2 = 0
  · have HI0 := Lib.hid (HI0.out ef (by rw [if_pos hz]))
    rw [hz]
    clear hz
    go_wp2_with fail
    go_loopw [20, 21, 22] (fun fv xv iv wr => ∃ (k : Nat) (f : Int) (x : List File), k ≤ q.length ∧ fv = .int .i64 f ∧ iv = .int .i64 k ∧ Chg Never w9 wr ∧ Rdv wr Never xv x ∧ Hid (RunInv t l f x k)) (fun _ _ iv _ => q.length - (intOf iv).toNat)
    case atStart => exact ⟨0, ef, t, Nat.zero_le _, rfl, rfl, Chg.refl _ _, ht9, HI0.out⟩
    case round =>
      clear HI0 ht9
      obtain ⟨k, f, x, hk, rfl, rfl, hc, hx, hI⟩ := hrel
      rename World => wr
      obtain ⟨xa, xc, rfl, _, _, _⟩ := rdv_slice hx
      by_cases hf : f = 0
      · subst hf
        by_cases hlt : k < q.length
        · obtain ⟨c, hcx⟩ : ∃ c, q[k]? = some c := ⟨q[k]'hlt, List.getElem?_eq_getElem hlt⟩
          obtain ⟨b, off, cv, rfl, _, _, d0, hcv⟩ := elems_row q3 hcx
          obtain ⟨ca, cc, rfl, _, _, _⟩ := rdv_slice hcv
          have d0 := hc.cellNever (HQ9.out.cellNever d0)
          have hcv := (hcv.never HQ9.out).never hc
          have t1 : decide ((k : Int) < (q.length : Int)) = true := decide_eq_true (by omega)
          have t1n : decide (k < q.length) = true := decide_eq_true hlt
          have klt : (k : Int) < (q.length : Int) := by omega
          have HI2 := Lib.hid (runInv_step hI.out (by rw [HQ.out]; exact hcx))
          clear hcx q3 hI
          go_wp2_with fail
          refine (refApply_any x c _ _ _ hx hcv).mono ?_
          rintro e wA ⟨rA, rfl, hcA, hrA⟩
          have hc := hc.trans hcA
          generalize (applyR x c).2.1 = an
          generalize (applyR x c).2.2 = af at HI2 ⊢
          generalize (applyR x c).1 = ax at HI2 hrA
          clear d0 hcv hcA hx
          go_wp2_with fail
          go_roundw
          case rel => exact ⟨k + 1, af, ax, by omega, rfl, by go_num, hc, hrA, HI2.out⟩
          case measure => simp [intOf] <;> omega
        · obtain rfl : k = q.length := by omega
          have HE := Lib.hid (runInv_end hI.out (by rw [HQ.out]; exact Nat.le_refl _))
          have hwf := hw9.trans hc
          have t1 : decide ((q.length : Int) < (q.length : Int)) = false := decide_eq_false (by omega)
          clear hI q3
          go_wp2_with fail
          refine (srun_any t l _ _ _ (ht.never hwf) (hl.never hwf) hl9 m (hg.never hwf)).mono ?_
          rintro e wR ⟨rR, rfl, hcR, hrR⟩
          have hx2 := hx.never hcR
          have hwf := hwf.trans hcR
          rw [HE.out.1]
          rw [HE.out.2] at hrR
          obtain ⟨zra, zrc, rfl, _, _, _⟩ := rdv_slice hrR
          clear hcR
          go_wp2_with fail
          refine (error_any 0 0 _ (hwf.cellNever he)).mono ?_
          rintro e wX ⟨rfl, hcX⟩
          have hwf := hwf.trans hcX
          have hx2 := hx2.never hcX
          have hrR := hrR.never hcX
          rw [beq_self_eq_true]
          clear hcX
          go_wp2_with fail
          refine (trees_any x x _ _ _ hrR hx2).mono ?_
          rintro e wY ⟨rfl, hcY⟩
          rw [decide_eq_true rfl]
          go_wp2_with fail
          go_ret
          exact ⟨rfl, hwf.trans hcY⟩
      · have HE := Lib.hid (runInv_bad hI.out hf)
        have hwf := hw9.trans hc
        have v1 : (f == 0) = false := beq_eq_false_iff_ne.2 hf
        have v2 : (f != 0) = true := by rw [bne, v1]; rfl
        have hnil := rdv_nil (α := File) wr Never
        have ZF := Lib.hid hf
        clear hI q3 hf hx
        by_cases hlt : k < q.length
        · have t1 : decide ((k : Int) < (q.length : Int)) = true := decide_eq_true (by omega)
          have t1n : decide (k < q.length) = true := decide_eq_true hlt
          go_wp2_with fail
          refine (srun_any t l _ _ _ (ht.never hwf) (hl.never hwf) hl9 m (hg.never hwf)).mono ?_
          rintro e wR ⟨rR, rfl, hcR, hrR⟩
          have hx2 := hnil.never hcR
          have hwf := hwf.trans hcR
          rw [HE.out.1]
          rw [HE.out.2] at hrR
          obtain ⟨zra, zrc, rfl, _, _, _⟩ := rdv_slice hrR
          clear hcR
          go_wp2_with fail
          refine (error_any f f _ (hwf.cellNever he)).mono ?_
          rintro e wX ⟨rfl, hcX⟩
          have hwf := hwf.trans hcX
          have hx2 := hx2.never hcX
          have hrR := hrR.never hcX
          rw [beq_self_eq_true]
          clear hcX
          go_wp2_with fail
          refine (trees_any [] [] _ _ _ hrR hx2).mono ?_
          rintro e wY ⟨rfl, hcY⟩
          rw [decide_eq_true rfl]
          go_wp2_with fail
          go_ret
          exact ⟨rfl, hwf.trans hcY⟩
        · have t1 : decide ((k : Int) < (q.length : Int)) = false := decide_eq_false (by omega)
          have t1n : decide (k < q.length) = false := decide_eq_false hlt
          go_wp2_with fail
          refine (srun_any t l _ _ _ (ht.never hwf) (hl.never hwf) hl9 m (hg.never hwf)).mono ?_
          rintro e wR ⟨rR, rfl, hcR, hrR⟩
          have hx2 := hnil.never hcR
          have hwf := hwf.trans hcR
          rw [HE.out.1]
          rw [HE.out.2] at hrR
          obtain ⟨zra, zrc, rfl, _, _, _⟩ := rdv_slice hrR
          clear hcR
          go_wp2_with fail
          refine (error_any f f _ (hwf.cellNever he)).mono ?_
          rintro e wX ⟨rfl, hcX⟩
          have hwf := hwf.trans hcX
          have hx2 := hx2.never hcX
          have hrR := hrR.never hcX
          rw [beq_self_eq_true]
          clear hcX
          go_wp2_with fail
          refine (trees_any [] [] _ _ _ hrR hx2).mono ?_
          rintro e wY ⟨rfl, hcY⟩
          rw [decide_eq_true rfl]
          go_wp2_with fail
          go_ret
          exact ⟨rfl, hwf.trans hcY⟩
  · have HI0 := Lib.hid (HI0.out (treeFault t).2 (by rw [if_neg hz]))
    have z1 : ((treeFault t).2 == 0) = false := beq_eq_false_iff_ne.2 hz
    have z2 : ((treeFault t).2 != 0) = true := by rw [bne, z1]; rfl
    generalize (treeFault t).2 = tf at HI0 z1 z2 ⊢
    clear hz
    go_wp2_with fail
    clear z1 z2
    go_loopw [20, 21, 22] (fun fv xv iv wr => ∃ (k : Nat) (f : Int) (x : List File), k ≤ q.length ∧ fv = .int .i64 f ∧ iv = .int .i64 k ∧ Chg Never w9 wr ∧ Rdv wr Never xv x ∧ Hid (RunInv t l f x k)) (fun _ _ iv _ => q.length - (intOf iv).toNat)
    case atStart => exact ⟨0, tf, t, Nat.zero_le _, rfl, rfl, Chg.refl _ _, ht9, HI0.out⟩
    case round =>
      clear HI0 ht9
      obtain ⟨k, f, x, hk, rfl, rfl, hc, hx, hI⟩ := hrel
      rename World => wr
      obtain ⟨xa, xc, rfl, _, _, _⟩ := rdv_slice hx
      by_cases hf : f = 0
      · subst hf
        by_cases hlt : k < q.length
        · obtain ⟨c, hcx⟩ : ∃ c, q[k]? = some c := ⟨q[k]'hlt, List.getElem?_eq_getElem hlt⟩
          obtain ⟨b, off, cv, rfl, _, _, d0, hcv⟩ := elems_row q3 hcx
          obtain ⟨ca, cc, rfl, _, _, _⟩ := rdv_slice hcv
          have d0 := hc.cellNever (HQ9.out.cellNever d0)
          have hcv := (hcv.never HQ9.out).never hc
          have t1 : decide ((k : Int) < (q.length : Int)) = true := decide_eq_true (by omega)
          have t1n : decide (k < q.length) = true := decide_eq_true hlt
          have klt : (k : Int) < (q.length : Int) := by omega
          have HI2 := Lib.hid (runInv_step hI.out (by rw [HQ.out]; exact hcx))
          clear hcx q3 hI
          go_wp2_with fail
          refine (refApply_any x c _ _ _ hx hcv).mono ?_
          rintro e wA ⟨rA, rfl, hcA, hrA⟩
          have hc := hc.trans hcA
          generalize (applyR x c).2.1 = an
          generalize (applyR x c).2.2 = af at HI2 ⊢
          generalize (applyR x c).1 = ax at HI2 hrA
          clear d0 hcv hcA hx
          go_wp2_with fail
          go_roundw
          case rel => exact ⟨k + 1, af, ax, by omega, rfl, by go_num, hc, hrA, HI2.out⟩
          case measure => simp [intOf] <;> omega
        · obtain rfl : k = q.length := by omega
          have HE := Lib.hid (runInv_end hI.out (by rw [HQ.out]; exact Nat.le_refl _))
          have hwf := hw9.trans hc
          have t1 : decide ((q.length : Int) < (q.length : Int)) = false := decide_eq_false (by omega)
          clear hI q3
          go_wp2_with fail
          refine (srun_any t l _ _ _ (ht.never hwf) (hl.never hwf) hl9 m (hg.never hwf)).mono ?_
          rintro e wR ⟨rR, rfl, hcR, hrR⟩
          have hx2 := hx.never hcR
          have hwf := hwf.trans hcR
          rw [HE.out.1]
          rw [HE.out.2] at hrR
          obtain ⟨zra, zrc, rfl, _, _, _⟩ := rdv_slice hrR
          clear hcR
          go_wp2_with fail
          refine (error_any 0 0 _ (hwf.cellNever he)).mono ?_
          rintro e wX ⟨rfl, hcX⟩
          have hwf := hwf.trans hcX
          have hx2 := hx2.never hcX
          have hrR := hrR.never hcX
          rw [beq_self_eq_true]
          clear hcX
          go_wp2_with fail
          refine (trees_any x x _ _ _ hrR hx2).mono ?_
          rintro e wY ⟨rfl, hcY⟩
          rw [decide_eq_true rfl]
          go_wp2_with fail
          go_ret
          exact ⟨rfl, hwf.trans hcY⟩
      · have HE := Lib.hid (runInv_bad hI.out hf)
        have hwf := hw9.trans hc
        have v1 : (f == 0) = false := beq_eq_false_iff_ne.2 hf
        have v2 : (f != 0) = true := by rw [bne, v1]; rfl
        have hnil := rdv_nil (α := File) wr Never
        have ZF := Lib.hid hf
        clear hI q3 hf hx
        by_cases hlt : k < q.length
        · have t1 : decide ((k : Int) < (q.length : Int)) = true := decide_eq_true (by omega)
          have t1n : decide (k < q.length) = true := decide_eq_true hlt
          go_wp2_with fail
          refine (srun_any t l _ _ _ (ht.never hwf) (hl.never hwf) hl9 m (hg.never hwf)).mono ?_
          rintro e wR ⟨rR, rfl, hcR, hrR⟩
          have hx2 := hnil.never hcR
          have hwf := hwf.trans hcR
          rw [HE.out.1]
          rw [HE.out.2] at hrR
          obtain ⟨zra, zrc, rfl, _, _, _⟩ := rdv_slice hrR
          clear hcR
          go_wp2_with fail
          refine (error_any f f _ (hwf.cellNever he)).mono ?_
          rintro e wX ⟨rfl, hcX⟩
          have hwf := hwf.trans hcX
          have hx2 := hx2.never hcX
          have hrR := hrR.never hcX
          rw [beq_self_eq_true]
          clear hcX
          go_wp2_with fail
          refine (trees_any [] [] _ _ _ hrR hx2).mono ?_
          rintro e wY ⟨rfl, hcY⟩
          rw [decide_eq_true rfl]
          go_wp2_with fail
          go_ret
          exact ⟨rfl, hwf.trans hcY⟩
        · have t1 : decide ((k : Int) < (q.length : Int)) = false := decide_eq_false (by omega)
          have t1n : decide (k < q.length) = false := decide_eq_false hlt
          go_wp2_with fail
          refine (srun_any t l _ _ _ (ht.never hwf) (hl.never hwf) hl9 m (hg.never hwf)).mono ?_
          rintro e wR ⟨rR, rfl, hcR, hrR⟩
          have hx2 := hnil.never hcR
          have hwf := hwf.trans hcR
          rw [HE.out.1]
          rw [HE.out.2] at hrR
          obtain ⟨zra, zrc, rfl, _, _, _⟩ := rdv_slice hrR
          clear hcR
          go_wp2_with fail
          refine (error_any f f _ (hwf.cellNever he)).mono ?_
          rintro e wX ⟨rfl, hcX⟩
          have hwf := hwf.trans hcX
          have hx2 := hx2.never hcX
          have hrR := hrR.never hcX
          rw [beq_self_eq_true]
          clear hcX
          go_wp2_with fail
          refine (trees_any [] [] _ _ _ hrR hx2).mono ?_
          rintro e wY ⟨rfl, hcY⟩
          rw [decide_eq_true rfl]
          go_wp2_with fail
          go_ret
          exact ⟨rfl, hwf.trans hcY⟩
end Go.Proofs.YtjiaidchcldocaaGreatDoor
