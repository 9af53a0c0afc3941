/-
  PARTS: THE WALK of the document's HunksFault.
-/
import Derived.Test.YtmjpfoeaobdaeaaGreatDoorRa2
import Derived.Test.YtmjpfoeaobdaeaaGreatDoorRa7
import Derived.Test.YtmjpfoeaobdaeaaGreatDoorRa5
import Derived.Test.YtmjpfoeaobdaeaaGreatDoorRa6
import Derived.Deep.RegionHeld3
set_option linter.unusedVariables false
set_option linter.unusedSimpArgs false
namespace Go.Proofs.YtmjpfoeaobdaeaaGreatDoor
open Go.RowKit

set_option maxHeartbeats 1000000 in
set_option maxRecDepth 100000 in
theorem refMore_any (l : List Mark) (v : Value) (w : World) (h : Rdv w Never v l) (hz : scriptFault l = 0) :
    Calls Tryz.prog 127 #[v] w fun e w' => e = .returned (.int .i64 ((newN l : Int) - oldN l)) ∧ Chg Never w w' := by
  have hlen := scriptFault_len hz
  have h1 := Nat.le_trans (newN_le l) hlen
  have h2 := Nat.le_trans (oldN_le l) hlen
  have e1 : newN l = (those l 45).length := rfl
  have e2 : oldN l = (those l 43).length := rfl
  have HZ := Lib.hid hz
  clear hz
  go_enter Tryz.func127, Tryz.ntmps127
  go_wp2_with fail
  refine (refNew_any l _ _ h HZ.out).mono ?_
  rintro e w1 ⟨r1, rfl, hc1, hr1⟩
  obtain ⟨a1, c1, rfl, _, _, _⟩ := rdv_slice hr1
  clear hr1
  go_wp2_with fail
  refine (refOld_any l _ _ (h.never hc1) HZ.out).mono ?_
  rintro e w2 ⟨r2, rfl, hc2, hr2⟩
  obtain ⟨a2, c2, rfl, _, _, _⟩ := rdv_slice hr2
  clear hr2
  go_wp2_with fail
  go_ret
  exact ⟨by rw [e1, e2]; rfl, hc1.trans hc2⟩

theorem rone_script {x : Hunk} (fin more : Int) (h : scriptFault x.marks ≠ 0) : oneFault x fin more = scriptFault x.marks := if_pos h
theorem rone_change {x : Hunk} (fin more : Int) (h : scriptFault x.marks = 0) (h2 : hasChange x.marks = false) : oneFault x fin more = 4 := by
  rw [oneFault, if_neg (by simp [h]), if_pos h2]
theorem rone_range {x : Hunk} (fin more : Int) (h : scriptFault x.marks = 0) (h2 : hasChange x.marks = true) (h3 : x.old < 0 ∨ 60 < x.old ∨ x.new < 0 ∨ 60 < x.new ∨ 60 < x.old + oldN x.marks ∨ 60 < x.new + newN x.marks) : oneFault x fin more = 1 := by
  rw [oneFault, if_neg (by simp [h]), if_neg (by simp [h2]), if_pos h3]
theorem rone_shape {x : Hunk} {fin more : Int} (h : scriptFault x.marks = 0) (h2 : hasChange x.marks = true) (h3 : ¬ (x.old < 0 ∨ 60 < x.old ∨ x.new < 0 ∨ 60 < x.new ∨ 60 < x.old + oldN x.marks ∨ 60 < x.new + newN x.marks)) (h4 : x.old < fin ∨ x.new ≠ x.old + more) : oneFault x fin more = 2 := by
  rw [oneFault, if_neg (by simp [h]), if_neg (by simp [h2]), if_neg h3, if_pos h4]
theorem rone_ok {x : Hunk} {fin more : Int} (h : scriptFault x.marks = 0) (h2 : hasChange x.marks = true) (h3 : ¬ (x.old < 0 ∨ 60 < x.old ∨ x.new < 0 ∨ 60 < x.new ∨ 60 < x.old + oldN x.marks ∨ 60 < x.new + newN x.marks)) (h4 : ¬ (x.old < fin ∨ x.new ≠ x.old + more)) : oneFault x fin more = 0 := by
  rw [oneFault, if_neg (by simp [h]), if_neg (by simp [h2]), if_neg h3, if_neg h4]

def moreTo (l : List Hunk) (k : Nat) : Int := ((l.take k).map fun h => (newN h.marks : Int) - oldN h.marks).sum
theorem moreTo_zero (l : List Hunk) : moreTo l 0 = 0 := by simp [moreTo]
theorem moreTo_succ {l : List Hunk} {k : Nat} {x : Hunk} (hx : l[k]? = some x) : moreTo l (k + 1) = moreTo l k + ((newN x.marks : Int) - oldN x.marks) := by
  unfold moreTo
  rw [List.take_add_one, hx]
  simp
theorem moreTo_bound {l : List Hunk} : ∀ (k : Nat), (∀ y ∈ l.take k, scriptFault y.marks = 0) → -(120 * (k : Int)) ≤ moreTo l k ∧ moreTo l k ≤ 120 * (k : Int)
  | 0, _ => by rw [moreTo_zero]; omega
  | k + 1, h => by
    have h1 := moreTo_bound k (fun y hy => h y (by rw [List.take_add_one]; exact List.mem_append_left _ hy))
    cases hx : l[k]? with
    | none =>
      have e : l.take (k + 1) = l.take k := by rw [List.take_add_one, hx]; simp
      have e2 : moreTo l (k + 1) = moreTo l k := by unfold moreTo; rw [e]
      rw [e2]; push_cast; omega
    | some x =>
      have hs := h x (by rw [List.take_add_one, hx]; simp)
      have hl := scriptFault_len hs
      have n1 := newN_le x.marks
      have n2 := oldN_le x.marks
      rw [moreTo_succ hx]; push_cast; omega
structure PrevOk (l : List Hunk) (k : Nat) (fin more : Int) : Prop where
  ok : ∀ y ∈ l.take k, scriptFault y.marks = 0
  zero : k = 0 → fin = 0
  prev : ∀ x, 0 < k → l[k - 1]? = some x → fin = x.old + oldN x.marks
  eq : more = moreTo l k
  bound : ∀ x, 0 < k → l[k - 1]? = some x → 0 ≤ x.old ∧ x.old ≤ 60
theorem prevOk_start (l : List Hunk) : PrevOk l 0 0 0 := ⟨fun y hy => by simp at hy, fun _ => rfl, fun x h => absurd h (Nat.lt_irrefl 0), (moreTo_zero l).symm, fun x h => absurd h (Nat.lt_irrefl 0)⟩
theorem PrevOk.step {l : List Hunk} {k : Nat} {fin more : Int} {x : Hunk} (h : PrevOk l k fin more) (hx : l[k]? = some x) (hz : oneFault x fin more = 0) : PrevOk l (k + 1) (x.old + oldN x.marks) (more + newN x.marks - oldN x.marks) := by
  obtain ⟨h0, _, z3, _, z5, _⟩ := oneFault_zero hz
  refine ⟨take_all_succ h.ok hx h0, fun e => by omega, fun y _ hy => ?_, ?_, fun y _ hy => ?_⟩
  · rw [Nat.add_sub_cancel, hx] at hy
    injection hy with hy
    rw [hy]
  · rw [moreTo_succ hx, h.eq]; omega
  · rw [Nat.add_sub_cancel, hx] at hy
    injection hy with hy
    rw [← hy]
    omega
theorem hunksGo_bad {l : List Hunk} {k : Nat} {fin more : Int} {x : Hunk} {f : Int} (h : hunksFault l = hunksGo k fin more (l.drop k)) (hx : l[k]? = some x) (hf : oneFault x fin more = f) (h0 : f ≠ 0) : hunksFault l = (k, f) := by
  rw [h, drop_eq hx, hunksGo, if_neg (by rw [hf]; exact h0), hf]
theorem hunksGo_next {l : List Hunk} {k : Nat} {fin more : Int} {x : Hunk} (h : hunksFault l = hunksGo k fin more (l.drop k)) (hx : l[k]? = some x) (hf : oneFault x fin more = 0) :
    hunksFault l = hunksGo (k + 1) (x.old + oldN x.marks) (more + newN x.marks - oldN x.marks) (l.drop (k + 1)) := by
  rw [h, drop_eq hx, hunksGo, if_pos hf]

theorem hasChange_take_true {l : List Mark} {k : Nat} {x : Mark} (_ : l[k]? = some x) (h : hasChange (l.take k) = true) : hasChange (l.take (k + 1)) = true := by
  unfold hasChange at *
  rw [List.any_eq_true] at *
  obtain ⟨y, hy, hp⟩ := h
  exact ⟨y, by rw [List.take_add_one]; exact List.mem_append_left _ hy, hp⟩
theorem box_keep {w0 w w' : World} {B : Nat} {x y z : Value} (h : Chg Never w0 w ∧ w.cell? ⟨B, 0, none⟩ = some x ∧ w.cell? ⟨B, 1, none⟩ = some y ∧ w.cell? ⟨B, 2, none⟩ = some z) (hc : Chg Never w w') :
    Chg Never w0 w' ∧ w'.cell? ⟨B, 0, none⟩ = some x ∧ w'.cell? ⟨B, 1, none⟩ = some y ∧ w'.cell? ⟨B, 2, none⟩ = some z :=
  ⟨h.1.trans hc, hc.cellNever h.2.1, hc.cellNever h.2.2.1, hc.cellNever h.2.2.2⟩
theorem box2_keep {w0 w w' : World} {B b o : Nat} {x y u v : Value} (h : Chg Never w0 w ∧ w.cell? ⟨B, 0, none⟩ = some x ∧ w.cell? ⟨B, 1, none⟩ = some y ∧ w.cell? ⟨b, o, none⟩ = some u ∧ w.cell? ⟨b, o + 2, none⟩ = some v) (hc : Chg Never w w') :
    Chg Never w0 w' ∧ w'.cell? ⟨B, 0, none⟩ = some x ∧ w'.cell? ⟨B, 1, none⟩ = some y ∧ w'.cell? ⟨b, o, none⟩ = some u ∧ w'.cell? ⟨b, o + 2, none⟩ = some v :=
  ⟨h.1.trans hc, hc.cellNever h.2.1, hc.cellNever h.2.2.1, hc.cellNever h.2.2.2.1, hc.cellNever h.2.2.2.2⟩


set_option maxHeartbeats 4000000 in
set_option maxRecDepth 100000 in
theorem refHunks_any (l : List Hunk) (v : Value) (w : World) (h : Rdv w Never v l) :
    Calls Tryz.prog 92 #[v] w fun e w' => e = .returned (.tuple #[.int .i64 (hunksFault l).1, .int .i64 (hunksFault l).2]) ∧ Chg Never w w' := by
  obtain ⟨a, cap, rfl, h1, h2, h3⟩ := rdv_slice h
  unfold maxLen at h2
  by_cases h60 : 60 < l.length
  · have HF : Hid (hunksFault l = (0, 3)) := if_pos h60
    go_enter Tryz.func92, Tryz.ntmps92
    go_wp2_with fail
    go_ret2
    exact ⟨by rw [HF.out]; rfl, Chg.refl _ _⟩
  · have HF : Hid (hunksFault l = hunksGo 0 0 0 l) := if_neg h60
    go_enter Tryz.func92, Tryz.ntmps92
    go_wp2_with fail
    go_loopw [4] (fun i wr => ∃ (k : Nat) (fin more : Int), k ≤ l.length ∧ i = .int .i64 k ∧ Chg Never w wr ∧ Hid (hunksFault l = hunksGo k fin more (l.drop k)) ∧ Hid (PrevOk l k fin more)) (fun i _ => l.length - (intOf i).toNat)
    case atStart => exact ⟨0, 0, 0, Nat.zero_le _, rfl, Chg.refl _ _, by rw [Hid, HF.out, List.drop_zero], prevOk_start l⟩
    case round =>
      obtain ⟨k, fin, more, hk, rfl, hc, hgo, hpv⟩ := hrel
      by_cases hlt : k < l.length
      · obtain ⟨x, hx⟩ : ∃ x, l[k]? = some x := ⟨l[k], by simp [hlt]⟩
        obtain ⟨b, off, mv, rfl, _, _, c0, c1, c2, hmv0⟩ := elems_hunk h3 hx
        have c0 := hc.cellNever c0
        have c1 := hc.cellNever c1
        have c2 := hc.cellNever c2
        obtain ⟨ma, mcap, rfl, m1, m2, _⟩ := rdv_slice hmv0
        have hA : Chg Never wr (wr.alloc (.cells #[.int .i64 x.old, .int .i64 x.new, .slice ma x.marks.length mcap] 146)) := (Chg.refl Never wr).alloc _
        have hmv := (hmv0.never hc).never hA
        have hbox := Blk3.new wr 146 (.int .i64 x.old) (.int .i64 x.new) (.slice ma x.marks.length mcap)
        obtain ⟨x0, x1, x2⟩ := hbox.cell
        have HX := Lib.hid hx
        clear hx h
        go_wp2_with fail
        clear c0 c1 c2
        refine (refScript_any x.marks _ _ hmv).mono ?_
        rintro e w2 ⟨rfl, hc2⟩
        have hbox := hbox.keep hc2 (fun h => h)
        have hmv := hmv.never hc2
        have hc := (hc.trans hA).trans hc2
        clear hA hc2 x0 x1 x2
        generalize wr.heap.size = B at hbox ⊢
        obtain ⟨x0, x1, x2⟩ := hbox.cell
        by_cases hsf : scriptFault x.marks = 0
        · have HSF := Lib.hid hsf
          have hml := scriptFault_len hsf
          have hn1 := Nat.le_trans (newN_le x.marks) hml
          have hn2 := Nat.le_trans (oldN_le x.marks) hml
          clear hsf
          unfold maxLen at m2
          rw [HSF.out]
          go_wp2_with fail
          go_loopw [7, 8] (fun ch j wr' => ∃ q : Nat, q ≤ x.marks.length ∧ j = .int .i64 q ∧ ch = .bool (hasChange (x.marks.take q)) ∧ Chg Never w2 wr') (fun _ j _ => x.marks.length - (intOf j).toNat)
          case atStart => exact ⟨0, Nat.zero_le _, rfl, rfl, Chg.refl _ _⟩
          case round =>
            obtain ⟨q, hq, rfl, rfl, hcq⟩ := hrel
            have y0 := hcq.cellNever x0
            have y1 := hcq.cellNever x1
            have y2 := hcq.cellNever x2
            by_cases hql : q < x.marks.length
            · obtain ⟨y, hy⟩ : ∃ y, x.marks[q]? = some y := ⟨x.marks[q], by simp [hql]⟩
              obtain ⟨ya, yc, e1, _, _, ym⟩ := rdv_slice hmv
              injection e1 with e1 _ e2
              subst e1 e2
              obtain ⟨b', off', rfl, _, _, g0, g1, s0, s1, hxs⟩ := elems_mark ym hy
              have g0 := hcq.cellNever g0
              have HY := Lib.hid hy
              clear hy ym x0 x1 x2
              cases hch : hasChange (x.marks.take q) with
              | true =>
                have HT := Lib.hid (hasChange_take_true HY.out hch)
                clear hch
                go_wp2_with fail
                go_roundw
                case rel => exact ⟨q + 1, by omega, by go_num, by rw [HT.out], hcq⟩
                case measure => simp [intOf] <;> omega
              | false =>
                have HT := Lib.hid (hasChange_take HY.out hch)
                clear hch
                go_wp2_with fail
                go_roundw
                case rel => exact ⟨q + 1, by omega, by go_num, by rw [HT.out]; first | rfl | (simp [bne]), hcq⟩
                case measure => simp [intOf] <;> omega
            · obtain rfl : q = x.marks.length := by omega
              rw [List.take_length]
              have hcw := hc.trans hcq
              have hmv := hmv.never hcq
              have hc := hcw
              clear hcw
              cases hch : hasChange x.marks with
              | false =>
                have HB := Lib.hid (hunksGo_bad hgo.out HX.out (rone_change fin more HSF.out hch) (by decide))
                go_wp2_with fail
                go_ret2
                exact ⟨by rw [HB.out]; rfl, hc⟩
              | true =>
                have HCH := Lib.hid hch
                clear hch hcq x0 x1 x2
                have x0 := y0
                have x1 := y1
                have x2 := y2
                clear y0 y1 y2
                generalize wr = w3 at *
                go_wp2_with fail
                have eo : oldN x.marks = (those x.marks 43).length := rfl
                have en : newN x.marks = (those x.marks 45).length := rfl
                by_cases r1 : x.old < 0
                · have q1 : decide (x.old < 0) = true := decide_eq_true r1
                  have HB := Lib.hid (hunksGo_bad hgo.out HX.out (rone_range fin more HSF.out HCH.out (by omega)) (by decide))
                  go_quiet (fail)
                  go_wp2_with fail
                  go_ret2
                  exact ⟨by rw [HB.out]; rfl, hc.drewN _⟩
                · have q1 : decide (x.old < 0) = false := decide_eq_false r1
                  by_cases r2 : 60 < x.old
                  · have q2 : decide (60 < x.old) = true := decide_eq_true r2
                    have HB := Lib.hid (hunksGo_bad hgo.out HX.out (rone_range fin more HSF.out HCH.out (by omega)) (by decide))
                    go_quiet (fail)
                    go_wp2_with fail
                    go_ret2
                    exact ⟨by rw [HB.out]; rfl, hc.drewN _⟩
                  · have q2 : decide (60 < x.old) = false := decide_eq_false r2
                    by_cases r3 : x.new < 0
                    · have q3 : decide (x.new < 0) = true := decide_eq_true r3
                      have HB := Lib.hid (hunksGo_bad hgo.out HX.out (rone_range fin more HSF.out HCH.out (by omega)) (by decide))
                      go_quiet (fail)
                      go_wp2_with fail
                      go_ret2
                      exact ⟨by rw [HB.out]; rfl, hc.drewN _⟩
                    · have q3 : decide (x.new < 0) = false := decide_eq_false r3
                      by_cases r4 : 60 < x.new
                      · have q4 : decide (60 < x.new) = true := decide_eq_true r4
                        have HB := Lib.hid (hunksGo_bad hgo.out HX.out (rone_range fin more HSF.out HCH.out (by omega)) (by decide))
                        go_quiet (fail)
                        go_wp2_with fail
                        go_ret2
                        exact ⟨by rw [HB.out]; rfl, hc.drewN _⟩
                      · have q4 : decide (60 < x.new) = false := decide_eq_false r4
                        have w5 : IntKind.i64.wrap (x.old + ((those x.marks 43).length : Int)) = x.old + ((those x.marks 43).length : Int) := IntWalk.i64_in _ (by omega)
                        have w6 : IntKind.i64.wrap (x.new + ((those x.marks 45).length : Int)) = x.new + ((those x.marks 45).length : Int) := IntWalk.i64_in _ (by omega)
                        by_cases r5 : 60 < x.old + oldN x.marks
                        · have q5 : decide (60 < x.old + ((those x.marks 43).length : Int)) = true := decide_eq_true (by rw [← eo]; exact r5)
                          have HB := Lib.hid (hunksGo_bad hgo.out HX.out (rone_range fin more HSF.out HCH.out (by omega)) (by decide))
                          refine wp_region_held_drew (S := fun w' => Chg Never w3 w' ∧ w'.cell? ⟨B, 0, none⟩ = some (.int .i64 x.old) ∧ w'.cell? ⟨B, 1, none⟩ = some (.int .i64 x.new) ∧ w'.cell? ⟨B, 2, none⟩ = some (.slice ma x.marks.length mcap)) (by kernel_rfl) ⟨(Chg.refl _ _).drew, x0, x1, x2⟩ (fun hH => ?_)
                          refine' tk 0 ?_
                          refine' tk 1 ?_
                          refine' tk 2 ?_
                          refine' tk 3 ?_
                          refine' tk 4 ?_
                          refine' tk 5 ?_
                          refine' tk 6 ?_
                          refine' tk 7 ?_
                          refine' tk 8 ?_
                          refine' tk 9 ?_
                          refine' tk 10 ?_
                          refine' tk 11 ?_
                          refine' tk 12 ?_
                          refine' tk 13 ?_
                          refine' tk 14 ?_
                          refine' tk 15 ?_
                          refine' tk 16 ?_
                          refine' tk 17 ?_
                          refine' tk 18 ?_
                          refine' tk 19 ?_
                          refine' tk 20 ?_
                          refine' tk 21 ?_
                          refine' tk 22 ?_
                          refine wpAnyH_ready (rs := [23]) (by kernel_rfl) (by simp) ?_
                          refine AllReadyH.cons rfl (fun K hK => ?_) AllReadyH.nil
                          go_simp
                          (go_at_call 90; refine (refOld_any x.marks _ _ (hmv.never (And.left (by assumption))) HSF.out).mono ?_; rintro e wq ⟨rq, rfl, hcq, hrq⟩; obtain ⟨qa, qc, rfl, _, _, _⟩ := rdv_slice hrq; clear hrq; have hS2 := box_keep (by assumption) hcq)
                          try go_wp2_with fail
                          refine hK.out _ _ ?_ (fun hH => ?_)
                          · assumption
                          clear hK K
                          try simp only [Act.put, List.setIfInBounds_toArray, List.set_cons_zero, List.set_cons_succ]
                          refine' tk 24 ?_
                          refine' tk 25 ?_
                          refine' tk 26 ?_
                          refine' tk 27 ?_
                          refine' tk 28 ?_
                          refine' sk 29 ?_
                          refine' sk 30 ?_
                          refine' sk 31 ?_
                          refine' sk 32 ?_
                          refine' sk 33 ?_
                          refine' sk 34 ?_
                          refine' sk 35 ?_
                          refine' sk 36 ?_
                          refine' tk 37 ?_
                          refine wpAnyH_done (by kernel_rfl) ?_ _
                          have hcF := hc.trans (And.left hH)
                          go_wp2_with fail
                          go_ret2
                          exact ⟨by rw [HB.out]; rfl, hcF⟩
                        · have q5 : decide (60 < x.old + ((those x.marks 43).length : Int)) = false := decide_eq_false (by rw [← eo]; exact r5)
                          by_cases r6 : 60 < x.new + newN x.marks
                          · have q6 : decide (60 < x.new + ((those x.marks 45).length : Int)) = true := decide_eq_true (by rw [← en]; exact r6)
                            have HB := Lib.hid (hunksGo_bad hgo.out HX.out (rone_range fin more HSF.out HCH.out (by omega)) (by decide))
                            refine wp_region_held_drew (S := fun w' => Chg Never w3 w' ∧ w'.cell? ⟨B, 0, none⟩ = some (.int .i64 x.old) ∧ w'.cell? ⟨B, 1, none⟩ = some (.int .i64 x.new) ∧ w'.cell? ⟨B, 2, none⟩ = some (.slice ma x.marks.length mcap)) (by kernel_rfl) ⟨(Chg.refl _ _).drew, x0, x1, x2⟩ (fun hH => ?_)
                            refine' tk 0 ?_
                            refine' tk 1 ?_
                            refine' tk 2 ?_
                            refine' tk 3 ?_
                            refine' tk 4 ?_
                            refine' tk 5 ?_
                            refine' tk 6 ?_
                            refine' tk 7 ?_
                            refine' tk 8 ?_
                            refine' tk 9 ?_
                            refine' tk 10 ?_
                            refine' tk 11 ?_
                            refine' tk 12 ?_
                            refine' tk 13 ?_
                            refine' tk 14 ?_
                            refine' tk 15 ?_
                            refine' tk 16 ?_
                            refine' tk 17 ?_
                            refine' tk 18 ?_
                            refine' tk 19 ?_
                            refine' tk 20 ?_
                            refine' tk 21 ?_
                            refine' tk 22 ?_
                            refine wpAnyH_ready (rs := [23]) (by kernel_rfl) (by simp) ?_
                            refine AllReadyH.cons rfl (fun K hK => ?_) AllReadyH.nil
                            go_simp
                            (go_at_call 90; refine (refOld_any x.marks _ _ (hmv.never (And.left (by assumption))) HSF.out).mono ?_; rintro e wq ⟨rq, rfl, hcq, hrq⟩; obtain ⟨qa, qc, rfl, _, _, _⟩ := rdv_slice hrq; clear hrq; have hS2 := box_keep (by assumption) hcq)
                            try go_wp2_with fail
                            refine hK.out _ _ ?_ (fun hH => ?_)
                            · assumption
                            clear hK K
                            try simp only [Act.put, List.setIfInBounds_toArray, List.set_cons_zero, List.set_cons_succ]
                            refine' tk 24 ?_
                            refine' tk 25 ?_
                            refine' tk 26 ?_
                            refine' tk 27 ?_
                            refine' tk 28 ?_
                            refine' tk 29 ?_
                            refine' tk 30 ?_
                            refine' tk 31 ?_
                            refine' tk 32 ?_
                            refine wpAnyH_ready (rs := [33]) (by kernel_rfl) (by simp) ?_
                            refine AllReadyH.cons rfl (fun K hK => ?_) AllReadyH.nil
                            go_simp
                            (go_at_call 91; refine (refNew_any x.marks _ _ (hmv.never (And.left (by assumption))) HSF.out).mono ?_; rintro e wq ⟨rq, rfl, hcq, hrq⟩; obtain ⟨qa, qc, rfl, _, _, _⟩ := rdv_slice hrq; clear hrq; have hS2 := box_keep (by assumption) hcq)
                            try go_wp2_with fail
                            refine hK.out _ _ ?_ (fun hH => ?_)
                            · assumption
                            clear hK K
                            try simp only [Act.put, List.setIfInBounds_toArray, List.set_cons_zero, List.set_cons_succ]
                            refine' tk 34 ?_
                            refine' tk 35 ?_
                            refine' tk 36 ?_
                            refine' tk 37 ?_
                            refine wpAnyH_done (by kernel_rfl) ?_ _
                            have hcF := hc.trans (And.left hH)
                            go_wp2_with fail
                            go_ret2
                            exact ⟨by rw [HB.out]; rfl, hcF⟩
                          · have q6 : decide (60 < x.new + ((those x.marks 45).length : Int)) = false := decide_eq_false (by rw [← en]; exact r6)
                            have HRG : Hid (¬ (x.old < 0 ∨ 60 < x.old ∨ x.new < 0 ∨ 60 < x.new ∨ 60 < x.old + oldN x.marks ∨ 60 < x.new + newN x.marks)) := by unfold Hid; omega
                            refine wp_region_held_drew (S := fun w' => Chg Never w3 w' ∧ w'.cell? ⟨B, 0, none⟩ = some (.int .i64 x.old) ∧ w'.cell? ⟨B, 1, none⟩ = some (.int .i64 x.new) ∧ w'.cell? ⟨B, 2, none⟩ = some (.slice ma x.marks.length mcap)) (by kernel_rfl) ⟨(Chg.refl _ _).drew, x0, x1, x2⟩ (fun hH => ?_)
                            refine' tk 0 ?_
                            refine' tk 1 ?_
                            refine' tk 2 ?_
                            refine' tk 3 ?_
                            refine' tk 4 ?_
                            refine' tk 5 ?_
                            refine' tk 6 ?_
                            refine' tk 7 ?_
                            refine' tk 8 ?_
                            refine' tk 9 ?_
                            refine' tk 10 ?_
                            refine' tk 11 ?_
                            refine' tk 12 ?_
                            refine' tk 13 ?_
                            refine' tk 14 ?_
                            refine' tk 15 ?_
                            refine' tk 16 ?_
                            refine' tk 17 ?_
                            refine' tk 18 ?_
                            refine' tk 19 ?_
                            refine' tk 20 ?_
                            refine' tk 21 ?_
                            refine' tk 22 ?_
                            refine wpAnyH_ready (rs := [23]) (by kernel_rfl) (by simp) ?_
                            refine AllReadyH.cons rfl (fun K hK => ?_) AllReadyH.nil
                            go_simp
                            (go_at_call 90; refine (refOld_any x.marks _ _ (hmv.never (And.left (by assumption))) HSF.out).mono ?_; rintro e wq ⟨rq, rfl, hcq, hrq⟩; obtain ⟨qa, qc, rfl, _, _, _⟩ := rdv_slice hrq; clear hrq; have hS2 := box_keep (by assumption) hcq)
                            try go_wp2_with fail
                            refine hK.out _ _ ?_ (fun hH => ?_)
                            · assumption
                            clear hK K
                            try simp only [Act.put, List.setIfInBounds_toArray, List.set_cons_zero, List.set_cons_succ]
                            refine' tk 24 ?_
                            refine' tk 25 ?_
                            refine' tk 26 ?_
                            refine' tk 27 ?_
                            refine' tk 28 ?_
                            refine' tk 29 ?_
                            refine' tk 30 ?_
                            refine' tk 31 ?_
                            refine' tk 32 ?_
                            refine wpAnyH_ready (rs := [33]) (by kernel_rfl) (by simp) ?_
                            refine AllReadyH.cons rfl (fun K hK => ?_) AllReadyH.nil
                            go_simp
                            (go_at_call 91; refine (refNew_any x.marks _ _ (hmv.never (And.left (by assumption))) HSF.out).mono ?_; rintro e wq ⟨rq, rfl, hcq, hrq⟩; obtain ⟨qa, qc, rfl, _, _, _⟩ := rdv_slice hrq; clear hrq; have hS2 := box_keep (by assumption) hcq)
                            try go_wp2_with fail
                            refine hK.out _ _ ?_ (fun hH => ?_)
                            · assumption
                            clear hK K
                            try simp only [Act.put, List.setIfInBounds_toArray, List.set_cons_zero, List.set_cons_succ]
                            refine' tk 34 ?_
                            refine' tk 35 ?_
                            refine' tk 36 ?_
                            refine' tk 37 ?_
                            refine wpAnyH_done (by kernel_rfl) ?_ _
                            have hc := hc.trans (And.left hH)
                            obtain ⟨_, x0, x1, x2⟩ := hH
                            have hbd := moreTo_bound k hpv.out.ok
                            have hbd1 : -7200 ≤ moreTo l k := by omega
                            have hbd2 : moreTo l k ≤ 7200 := by omega
                            clear w5 w6 q1 q2 q3 q4 q5 q6 r5 r6 hbd
                            go_wp2_with fail
                            go_loopw [9, 10] (fun by_ j wr' => ∃ q : Nat, q ≤ k ∧ j = .int .i64 q ∧ by_ = .int .i64 (moreTo l q) ∧ Chg Never wq wr') (fun _ j _ => k - (intOf j).toNat)
                            case atStart => exact ⟨0, Nat.zero_le _, rfl, by rw [moreTo_zero], Chg.refl _ _⟩
                            case round =>
                              obtain ⟨q, hq, rfl, rfl, hcq3⟩ := hrel
                              by_cases hql : q < k
                              · obtain ⟨y, hy⟩ : ∃ y, l[q]? = some y := ⟨l[q]'(by omega), by simp [show q < l.length by omega]⟩
                                obtain ⟨yb, yo, ymv, e1, _, _, d0, d1, d2, hym⟩ := elems_hunk h3 hy
                                injection e1 with e1
                                injection e1 with e11 e12 e13
                                subst e11 e12
                                have hmem : y ∈ l.take k := List.mem_of_getElem? (i := q) (by rw [List.getElem?_take, if_pos hql]; exact hy)
                                have HYS := Lib.hid (hpv.out.ok y hmem)
                                have hcy := hc.trans hcq3
                                have d2 := hcy.cellNever d2
                                have hym := hym.never hcy
                                have HT := Lib.hid (moreTo_succ hy)
                                have m1 := moreTo_bound q (fun z hz => hpv.out.ok z (List.take_subset_take_left l hq hz))
                                have m2 := moreTo_bound (q + 1) (fun z hz => hpv.out.ok z (List.take_subset_take_left l hql hz))
                                rw [HT.out] at m2
                                push_cast at m2
                                have g1 : (q : Int) < l.length := by omega
                                have g2 : (q : Int) < k := by omega
                                clear hy d0 d1 hmem x0 x1 x2 h3
                                go_wp2_with fail
                                refine (refMore_any y.marks _ _ hym HYS.out).mono ?_
                                rintro e w5 ⟨rfl, hc5⟩
                                have hcq4 := hcq3.trans hc5
                                clear hc5
                                go_wp2_with fail
                                go_roundw
                                case rel => exact ⟨q + 1, by omega, by go_num, by rw [HT.out], hcq4⟩
                                case measure => simp [intOf] <;> omega
                              · obtain rfl : q = k := by omega
                                have hc := hc.trans hcq3
                                have x0 := hcq3.cellNever x0
                                have x1 := hcq3.cellNever x1
                                have e8 : IntKind.i64.wrap (x.old + moreTo l q) = x.old + moreTo l q := IntWalk.i64_in _ (by omega)
                                clear hcq3 x2 hql hq
                                rcases Nat.eq_zero_or_pos q with hq0 | hq0
                                · have t0 : decide ((0 : Int) < (q : Int)) = false := decide_eq_false (by omega)
                                  have t0n : decide (0 < q) = false := decide_eq_false (by omega)
                                  have t0m : ¬ (0 < q) := by omega
                                  have HF0 := Lib.hid (hpv.out.zero hq0)
                                  cases hne : (x.new != x.old + moreTo l q) with
                                  | true =>
                                    have HB := Lib.hid (hunksGo_bad hgo.out HX.out (rone_shape HSF.out HCH.out HRG.out (.inr (by rw [hpv.out.eq]; simpa using hne))) (by decide))
                                    clear hq0
                                    go_wp2_with fail
                                    go_quiet (fail)
                                    go_wp2_with fail
                                    go_ret2
                                    exact ⟨by rw [HB.out]; rfl, hc.drewN _⟩
                                  | false =>
                                    have HO := Lib.hid (rone_ok (fin := fin) (more := more) HSF.out HCH.out HRG.out (by
                                      rw [hpv.out.eq, HF0.out]
                                      have e : x.new = x.old + moreTo l q := by simpa using hne
                                      omega))
                                    clear hq0
                                    go_wp2_with fail
                                    go_quiet (fail)
                                    go_wp2_with fail
                                    go_roundw
                                    case rel => exact ⟨q + 1, _, _, by omega, by go_num, hc.drewN _, hunksGo_next hgo.out HX.out HO.out, hpv.out.step HX.out HO.out⟩
                                    case measure => simp [intOf] <;> omega
                                · obtain ⟨p, hp⟩ : ∃ p, l[q - 1]? = some p := ⟨l[q - 1]'(by omega), by simp [show q - 1 < l.length by omega]⟩
                                  obtain ⟨n, rfl⟩ : ∃ n, q = n + 1 := ⟨q - 1, by omega⟩
                                  rw [Nat.add_sub_cancel] at hp
                                  obtain ⟨yb, yo, ymv, e1, _, _, d0, d1, d2, hpv2⟩ := elems_hunk h3 hp
                                  injection e1 with e1
                                  injection e1 with e11 e12 e13
                                  subst e11 e12
                                  have HPS := Lib.hid (hpv.out.ok p (List.mem_of_getElem? (i := n) (by rw [List.getElem?_take, if_pos (by omega)]; exact hp)))
                                  have hfin := hpv.out.prev p hq0 (by rw [Nat.add_sub_cancel]; exact hp)
                                  obtain ⟨pb0, pb1⟩ := hpv.out.bound p hq0 (by rw [Nat.add_sub_cancel]; exact hp)
                                  have d0 := hc.cellNever d0
                                  have d2 := hc.cellNever d2
                                  have hpv2 := hpv2.never hc
                                  have hpl := Nat.le_trans (those_le p.marks 43) (scriptFault_len HPS.out)
                                  have epo : oldN p.marks = (those p.marks 43).length := rfl
                                  have t0 : decide ((0 : Int) < ((n + 1 : Nat) : Int)) = true := decide_eq_true (by omega)
                                  have t0' : decide ((0 : Int) < (n : Int) + 1) = true := decide_eq_true (by omega)
                                  have e9 : IntKind.i64.wrap (((n + 1 : Nat) : Int) - 1) = (n : Int) := by rw [IntWalk.i64_in _ (by omega)]; omega
                                  have e9' : IntKind.i64.wrap ((n : Int) + 1 - 1) = (n : Int) := by rw [IntWalk.i64_in _ (by omega)]; omega
                                  have e10 : IntKind.i64.wrap (p.old + ((those p.marks 43).length : Int)) = p.old + ((those p.marks 43).length : Int) := IntWalk.i64_in _ (by omega)
                                  have e9n : IntKind.i64.wrap (n : Int) = (n : Int) := IntWalk.i64_in _ (by omega)
                                  have g1 : (0 : Int) ≤ (n : Int) := by omega
                                  have g2 : (n : Int) < l.length := by omega
                                  clear hp d1 hq0 h3
                                  generalize wr = w6 at *
                                  go_wp2_with fail
                                  by_cases hlo : x.old < p.old + ((those p.marks 43).length : Int)
                                  · have q7 : decide (x.old < p.old + ((those p.marks 43).length : Int)) = true := decide_eq_true hlo
                                    have HB := Lib.hid (hunksGo_bad hgo.out HX.out (rone_shape HSF.out HCH.out HRG.out (.inl (by rw [hfin, epo]; exact hlo))) (by decide))
                                    refine wp_region_held_drew (S := fun w' => Chg Never w6 w' ∧ w'.cell? ⟨B, 0, none⟩ = some (.int .i64 x.old) ∧ w'.cell? ⟨B, 1, none⟩ = some (.int .i64 x.new) ∧ w'.cell? ⟨b, off + n * 3, none⟩ = some (.int .i64 p.old) ∧ w'.cell? ⟨b, off + n * 3 + 2, none⟩ = some ymv) (by kernel_rfl) ⟨(Chg.refl _ _).drew, x0, x1, d0, d2⟩ (fun hH => ?_)
                                    refine' tk 0 ?_
                                    refine' tk 1 ?_
                                    refine' tk 2 ?_
                                    refine' tk 3 ?_
                                    refine' tk 4 ?_
                                    refine' tk 5 ?_
                                    refine' tk 6 ?_
                                    refine' tk 7 ?_
                                    refine' tk 8 ?_
                                    refine' tk 9 ?_
                                    refine' tk 10 ?_
                                    refine' tk 11 ?_
                                    refine' tk 12 ?_
                                    refine' tk 13 ?_
                                    refine' tk 14 ?_
                                    refine' tk 15 ?_
                                    refine' tk 16 ?_
                                    refine wpAnyH_ready (rs := [17]) (by kernel_rfl) (by simp) ?_
                                    refine AllReadyH.cons rfl (fun K hK => ?_) AllReadyH.nil
                                    go_simp
                                    (go_at_call 90; refine (refOld_any p.marks _ _ (hpv2.never (And.left (by assumption))) HPS.out).mono ?_; rintro e wq2 ⟨rq2, rfl, hcq2, hrq2⟩; obtain ⟨qa2, qc2, rfl, _, _, _⟩ := rdv_slice hrq2; clear hrq2; have hS2 := box2_keep (by assumption) hcq2)
                                    try go_wp2_with fail
                                    refine hK.out _ _ ?_ (fun hH => ?_)
                                    · assumption
                                    clear hK K
                                    try simp only [Act.put, List.setIfInBounds_toArray, List.set_cons_zero, List.set_cons_succ]
                                    refine' tk 18 ?_
                                    refine' tk 19 ?_
                                    refine' tk 20 ?_
                                    refine' tk 21 ?_
                                    refine' tk 22 ?_
                                    refine' sk 23 ?_
                                    refine' sk 24 ?_
                                    refine' sk 25 ?_
                                    refine' sk 26 ?_
                                    refine' sk 27 ?_
                                    refine' sk 28 ?_
                                    refine' sk 29 ?_
                                    refine' tk 30 ?_
                                    refine wpAnyH_done (by kernel_rfl) ?_ _
                                    have hcF := hc.trans (And.left hH)
                                    go_wp2_with fail
                                    go_ret2
                                    exact ⟨by rw [HB.out]; rfl, hcF⟩
                                  · have q7 : decide (x.old < p.old + ((those p.marks 43).length : Int)) = false := decide_eq_false hlo
                                    cases hne : (x.new != x.old + moreTo l (n + 1)) with
                                    | true =>
                                      have HB := Lib.hid (hunksGo_bad hgo.out HX.out (rone_shape HSF.out HCH.out HRG.out (.inr (by rw [hpv.out.eq]; simpa using hne))) (by decide))
                                      refine wp_region_held_drew (S := fun w' => Chg Never w6 w' ∧ w'.cell? ⟨B, 0, none⟩ = some (.int .i64 x.old) ∧ w'.cell? ⟨B, 1, none⟩ = some (.int .i64 x.new) ∧ w'.cell? ⟨b, off + n * 3, none⟩ = some (.int .i64 p.old) ∧ w'.cell? ⟨b, off + n * 3 + 2, none⟩ = some ymv) (by kernel_rfl) ⟨(Chg.refl _ _).drew, x0, x1, d0, d2⟩ (fun hH => ?_)
                                      refine' tk 0 ?_
                                      refine' tk 1 ?_
                                      refine' tk 2 ?_
                                      refine' tk 3 ?_
                                      refine' tk 4 ?_
                                      refine' tk 5 ?_
                                      refine' tk 6 ?_
                                      refine' tk 7 ?_
                                      refine' tk 8 ?_
                                      refine' tk 9 ?_
                                      refine' tk 10 ?_
                                      refine' tk 11 ?_
                                      refine' tk 12 ?_
                                      refine' tk 13 ?_
                                      refine' tk 14 ?_
                                      refine' tk 15 ?_
                                      refine' tk 16 ?_
                                      refine wpAnyH_ready (rs := [17]) (by kernel_rfl) (by simp) ?_
                                      refine AllReadyH.cons rfl (fun K hK => ?_) AllReadyH.nil
                                      go_simp
                                      (go_at_call 90; refine (refOld_any p.marks _ _ (hpv2.never (And.left (by assumption))) HPS.out).mono ?_; rintro e wq2 ⟨rq2, rfl, hcq2, hrq2⟩; obtain ⟨qa2, qc2, rfl, _, _, _⟩ := rdv_slice hrq2; clear hrq2; have hS2 := box2_keep (by assumption) hcq2)
                                      try go_wp2_with fail
                                      refine hK.out _ _ ?_ (fun hH => ?_)
                                      · assumption
                                      clear hK K
                                      try simp only [Act.put, List.setIfInBounds_toArray, List.set_cons_zero, List.set_cons_succ]
                                      refine' tk 18 ?_
                                      refine' tk 19 ?_
                                      refine' tk 20 ?_
                                      refine' tk 21 ?_
                                      refine' tk 22 ?_
                                      refine' tk 23 ?_
                                      refine' tk 24 ?_
                                      refine' tk 25 ?_
                                      refine' tk 26 ?_
                                      refine' tk 27 ?_
                                      refine' tk 28 ?_
                                      refine' tk 29 ?_
                                      refine' tk 30 ?_
                                      refine wpAnyH_done (by kernel_rfl) ?_ _
                                      have hcF := hc.trans (And.left hH)
                                      go_wp2_with fail
                                      go_ret2
                                      exact ⟨by rw [HB.out]; rfl, hcF⟩
                                    | false =>
                                      have HO := Lib.hid (rone_ok (fin := fin) (more := more) HSF.out HCH.out HRG.out (by
                                        rw [hpv.out.eq, hfin, epo]
                                        have e : x.new = x.old + moreTo l (n + 1) := by simpa using hne
                                        omega))
                                      refine wp_region_held_drew (S := fun w' => Chg Never w6 w' ∧ w'.cell? ⟨B, 0, none⟩ = some (.int .i64 x.old) ∧ w'.cell? ⟨B, 1, none⟩ = some (.int .i64 x.new) ∧ w'.cell? ⟨b, off + n * 3, none⟩ = some (.int .i64 p.old) ∧ w'.cell? ⟨b, off + n * 3 + 2, none⟩ = some ymv) (by kernel_rfl) ⟨(Chg.refl _ _).drew, x0, x1, d0, d2⟩ (fun hH => ?_)
                                      refine' tk 0 ?_
                                      refine' tk 1 ?_
                                      refine' tk 2 ?_
                                      refine' tk 3 ?_
                                      refine' tk 4 ?_
                                      refine' tk 5 ?_
                                      refine' tk 6 ?_
                                      refine' tk 7 ?_
                                      refine' tk 8 ?_
                                      refine' tk 9 ?_
                                      refine' tk 10 ?_
                                      refine' tk 11 ?_
                                      refine' tk 12 ?_
                                      refine' tk 13 ?_
                                      refine' tk 14 ?_
                                      refine' tk 15 ?_
                                      refine' tk 16 ?_
                                      refine wpAnyH_ready (rs := [17]) (by kernel_rfl) (by simp) ?_
                                      refine AllReadyH.cons rfl (fun K hK => ?_) AllReadyH.nil
                                      go_simp
                                      (go_at_call 90; refine (refOld_any p.marks _ _ (hpv2.never (And.left (by assumption))) HPS.out).mono ?_; rintro e wq2 ⟨rq2, rfl, hcq2, hrq2⟩; obtain ⟨qa2, qc2, rfl, _, _, _⟩ := rdv_slice hrq2; clear hrq2; have hS2 := box2_keep (by assumption) hcq2)
                                      try go_wp2_with fail
                                      refine hK.out _ _ ?_ (fun hH => ?_)
                                      · assumption
                                      clear hK K
                                      try simp only [Act.put, List.setIfInBounds_toArray, List.set_cons_zero, List.set_cons_succ]
                                      refine' tk 18 ?_
                                      refine' tk 19 ?_
                                      refine' tk 20 ?_
                                      refine' tk 21 ?_
                                      refine' tk 22 ?_
                                      refine' tk 23 ?_
                                      refine' tk 24 ?_
                                      refine' tk 25 ?_
                                      refine' tk 26 ?_
                                      refine' tk 27 ?_
                                      refine' tk 28 ?_
                                      refine' tk 29 ?_
                                      refine' tk 30 ?_
                                      refine wpAnyH_done (by kernel_rfl) ?_ _
                                      have hcF := hc.trans (And.left hH)
                                      clear d0 d2 x0 x1 e8 e9 e9' e9n e10 t0 t0' q7 hH
                                      go_wp2_with fail
                                      go_roundw
                                      case rel => exact ⟨n + 1 + 1, _, _, by omega, by go_num, hcF, hunksGo_next hgo.out HX.out HO.out, hpv.out.step HX.out HO.out⟩
                                      case measure => simp [intOf] <;> omega
        · have HB := Lib.hid (hunksGo_bad hgo.out HX.out (rone_script fin more (by exact hsf)) hsf)
          have t1 : (scriptFault x.marks != 0) = true := by simp [hsf]
          clear hsf
          go_wp2_with fail
          go_ret2
          exact ⟨by rw [HB.out]; rfl, hc⟩
      · obtain rfl : k = l.length := by omega
        have HZ : Hid (hunksFault l = (0, 0)) := by rw [Hid, hgo.out, List.drop_length]; rfl
        go_wp2_with fail
        go_ret2
        exact ⟨by rw [HZ.out]; rfl, hc⟩
end Go.Proofs.YtmjpfoeaobdaeaaGreatDoor
