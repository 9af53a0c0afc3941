/-
  THE WALKS OF LAYER 3: one, Check.
-/
import Derived.Test.YtpoammapjmddfaaDoorHunkA
namespace Go.Proofs.YtpoammapjmddfaaDoor
open Go.RowKit

/-- a struct of three cells that has been boxed, and is still there -/
theorem box3 {w w1 : World} {x y z : Value} {t : TypeId} (hc : Chg Never (w.alloc (.cells #[x, y, z] t)) w1) :
    w1.cell? ⟨w.heap.size, 0, none⟩ = some x ∧ w1.cell? ⟨w.heap.size, 1, none⟩ = some y ∧ w1.cell? ⟨w.heap.size, 2, none⟩ = some z := by
  refine ⟨hc.cellNever ?_, hc.cellNever ?_, hc.cellNever ?_⟩ <;> (simp only [World.cell?]; rw [heap_alloc_new]; rfl)


set_option maxHeartbeats 800000 in
theorem one_script (o n : Int) (l : List Mark) (mv : Value) (fin more : Int) (w : World) (hm : Rdv w Never mv l) (f0 : -100000 ≤ fin) (f1 : fin ≤ 100000) (m0 : -100000 ≤ more) (m1 : more ≤ 100000)
    (HZ : Hid (scriptFault l ≠ 0)) :
    Calls Tryd.prog 89 #[.agg #[.int .i64 o, .int .i64 n, mv], .int .i64 fin, .int .i64 more] w fun e w' => e = .returned (errV (oneFault ⟨o, n, l⟩ fin more)) ∧ Chg Never w w' := by
  go_enter Tryd.func89, Tryd.ntmps89
  go_wp2_with fail
  refine (edit_check_any l _ _ (hm.never ((Chg.refl _ _).alloc _))).mono ?_
  rintro e w1 ⟨rfl, hc1⟩
  obtain ⟨x0, x1, x2⟩ := box3 hc1
  have hw : Chg Never w w1 := ((Chg.refl _ _).alloc _).trans hc1
  rw [errV_pos HZ.out]
  go_wp2_with fail
  go_ret
  exact ⟨by unfold oneFault; rw [if_pos HZ.out, errV_pos HZ.out]; rfl, hw⟩

set_option maxHeartbeats 800000 in
theorem one_none (o n : Int) (l : List Mark) (mv : Value) (fin more : Int) (w : World) (hm : Rdv w Never mv l) (f0 : -100000 ≤ fin) (f1 : fin ≤ 100000) (m0 : -100000 ≤ more) (m1 : more ≤ 100000)
    (HZ : Hid (scriptFault l = 0)) (HC : Hid (hasChange l = false)) :
    Calls Tryd.prog 89 #[.agg #[.int .i64 o, .int .i64 n, mv], .int .i64 fin, .int .i64 more] w fun e w' => e = .returned (errV (oneFault ⟨o, n, l⟩ fin more)) ∧ Chg Never w w' := by
  go_enter Tryd.func89, Tryd.ntmps89
  go_wp2_with fail
  refine (edit_check_any l _ _ (hm.never ((Chg.refl _ _).alloc _))).mono ?_
  rintro e w1 ⟨rfl, hc1⟩
  obtain ⟨x0, x1, x2⟩ := box3 hc1
  have hw : Chg Never w w1 := ((Chg.refl _ _).alloc _).trans hc1
  rw [HZ.out, errV_zero]
  go_wp2_with fail
  refine (contains_changed l _ _ (hm.never hw)).mono ?_
  rintro e w2 ⟨rfl, hc2⟩
  obtain ⟨x0, x1, x2⟩ := box3 (hc1.trans hc2)
  have hw := hw.trans hc2
  rw [HC.out]
  go_wp2_with fail
  go_ret
  exact ⟨by unfold oneFault; rw [if_neg (fun h => h HZ.out), if_pos HC.out]; rfl, hw⟩

set_option maxHeartbeats 800000 in
theorem one_range (o n : Int) (l : List Mark) (mv : Value) (fin more : Int) (w : World) (hm : Rdv w Never mv l) (f0 : -100000 ≤ fin) (f1 : fin ≤ 100000) (m0 : -100000 ≤ more) (m1 : more ≤ 100000)
    (HZ : Hid (scriptFault l = 0)) (HC : Hid (hasChange l = true)) (HR : Hid (o < 0 ∨ 60 < o ∨ n < 0 ∨ 60 < n ∨ 60 < o + oldN l ∨ 60 < n + newN l)) :
    Calls Tryd.prog 89 #[.agg #[.int .i64 o, .int .i64 n, mv], .int .i64 fin, .int .i64 more] w fun e w' => e = .returned (errV (oneFault ⟨o, n, l⟩ fin more)) ∧ Chg Never w w' := by
  have E : oneFault ⟨o, n, l⟩ fin more = 1 := by
    unfold oneFault; rw [if_neg (fun h => h HZ.out), if_neg (by rw [HC.out]; decide), if_pos HR.out]
  rw [E]
  have hl := scriptFault_len HZ.out
  have l1 := oldN_le l
  have l2 := newN_le l
  clear E
  by_cases a1 : o < 0
  · go_enter Tryd.func89, Tryd.ntmps89
    go_wp2_with fail
    refine (edit_check_any l _ _ (hm.never ((Chg.refl _ _).alloc _))).mono ?_
    rintro e w1 ⟨rfl, hc1⟩
    obtain ⟨x0, x1, x2⟩ := box3 hc1
    have hw : Chg Never w w1 := ((Chg.refl _ _).alloc _).trans hc1
    rw [HZ.out, errV_zero]
    go_wp2_with fail
    refine (contains_changed l _ _ (hm.never hw)).mono ?_
    rintro e w2 ⟨rfl, hc2⟩
    obtain ⟨x0, x1, x2⟩ := box3 (hc1.trans hc2)
    have hw := hw.trans hc2
    rw [HC.out]
    go_wp2_with fail
    refine (size_any ⟨o, n, l⟩ mv _ (hm.never hw)).mono ?_
    rintro e w3 ⟨rfl, hc3⟩
    obtain ⟨x0, x1, x2⟩ := box3 ((hc1.trans hc2).trans hc3)
    have hw := hw.trans hc3
    clear hc1 hc2 hc3
    go_wp2_with fail
    go_ret
    exact ⟨rfl, hw⟩
  · by_cases a2 : 60 < o
    · go_enter Tryd.func89, Tryd.ntmps89
      go_wp2_with fail
      refine (edit_check_any l _ _ (hm.never ((Chg.refl _ _).alloc _))).mono ?_
      rintro e w1 ⟨rfl, hc1⟩
      obtain ⟨x0, x1, x2⟩ := box3 hc1
      have hw : Chg Never w w1 := ((Chg.refl _ _).alloc _).trans hc1
      rw [HZ.out, errV_zero]
      go_wp2_with fail
      refine (contains_changed l _ _ (hm.never hw)).mono ?_
      rintro e w2 ⟨rfl, hc2⟩
      obtain ⟨x0, x1, x2⟩ := box3 (hc1.trans hc2)
      have hw := hw.trans hc2
      rw [HC.out]
      go_wp2_with fail
      refine (size_any ⟨o, n, l⟩ mv _ (hm.never hw)).mono ?_
      rintro e w3 ⟨rfl, hc3⟩
      obtain ⟨x0, x1, x2⟩ := box3 ((hc1.trans hc2).trans hc3)
      have hw := hw.trans hc3
      clear hc1 hc2 hc3
      go_wp2_with fail
      go_ret
      exact ⟨rfl, hw⟩
    · by_cases a3 : n < 0
      · go_enter Tryd.func89, Tryd.ntmps89
        go_wp2_with fail
        refine (edit_check_any l _ _ (hm.never ((Chg.refl _ _).alloc _))).mono ?_
        rintro e w1 ⟨rfl, hc1⟩
        obtain ⟨x0, x1, x2⟩ := box3 hc1
        have hw : Chg Never w w1 := ((Chg.refl _ _).alloc _).trans hc1
        rw [HZ.out, errV_zero]
        go_wp2_with fail
        refine (contains_changed l _ _ (hm.never hw)).mono ?_
        rintro e w2 ⟨rfl, hc2⟩
        obtain ⟨x0, x1, x2⟩ := box3 (hc1.trans hc2)
        have hw := hw.trans hc2
        rw [HC.out]
        go_wp2_with fail
        refine (size_any ⟨o, n, l⟩ mv _ (hm.never hw)).mono ?_
        rintro e w3 ⟨rfl, hc3⟩
        obtain ⟨x0, x1, x2⟩ := box3 ((hc1.trans hc2).trans hc3)
        have hw := hw.trans hc3
        clear hc1 hc2 hc3
        go_wp2_with fail
        go_ret
        exact ⟨rfl, hw⟩
      · by_cases a4 : 60 < n
        · go_enter Tryd.func89, Tryd.ntmps89
          go_wp2_with fail
          refine (edit_check_any l _ _ (hm.never ((Chg.refl _ _).alloc _))).mono ?_
          rintro e w1 ⟨rfl, hc1⟩
          obtain ⟨x0, x1, x2⟩ := box3 hc1
          have hw : Chg Never w w1 := ((Chg.refl _ _).alloc _).trans hc1
          rw [HZ.out, errV_zero]
          go_wp2_with fail
          refine (contains_changed l _ _ (hm.never hw)).mono ?_
          rintro e w2 ⟨rfl, hc2⟩
          obtain ⟨x0, x1, x2⟩ := box3 (hc1.trans hc2)
          have hw := hw.trans hc2
          rw [HC.out]
          go_wp2_with fail
          refine (size_any ⟨o, n, l⟩ mv _ (hm.never hw)).mono ?_
          rintro e w3 ⟨rfl, hc3⟩
          obtain ⟨x0, x1, x2⟩ := box3 ((hc1.trans hc2).trans hc3)
          have hw := hw.trans hc3
          clear hc1 hc2 hc3
          go_wp2_with fail
          go_ret
          exact ⟨rfl, hw⟩
        · by_cases a5 : 60 < o + oldN l
          · go_enter Tryd.func89, Tryd.ntmps89
            go_wp2_with fail
            refine (edit_check_any l _ _ (hm.never ((Chg.refl _ _).alloc _))).mono ?_
            rintro e w1 ⟨rfl, hc1⟩
            obtain ⟨x0, x1, x2⟩ := box3 hc1
            have hw : Chg Never w w1 := ((Chg.refl _ _).alloc _).trans hc1
            rw [HZ.out, errV_zero]
            go_wp2_with fail
            refine (contains_changed l _ _ (hm.never hw)).mono ?_
            rintro e w2 ⟨rfl, hc2⟩
            obtain ⟨x0, x1, x2⟩ := box3 (hc1.trans hc2)
            have hw := hw.trans hc2
            rw [HC.out]
            go_wp2_with fail
            refine (size_any ⟨o, n, l⟩ mv _ (hm.never hw)).mono ?_
            rintro e w3 ⟨rfl, hc3⟩
            obtain ⟨x0, x1, x2⟩ := box3 ((hc1.trans hc2).trans hc3)
            have hw := hw.trans hc3
            clear hc1 hc2 hc3
            go_wp2_with fail
            go_ret
            exact ⟨rfl, hw⟩
          · have a6 : 60 < n + newN l := by have := HR.out; omega
            go_enter Tryd.func89, Tryd.ntmps89
            go_wp2_with fail
            refine (edit_check_any l _ _ (hm.never ((Chg.refl _ _).alloc _))).mono ?_
            rintro e w1 ⟨rfl, hc1⟩
            obtain ⟨x0, x1, x2⟩ := box3 hc1
            have hw : Chg Never w w1 := ((Chg.refl _ _).alloc _).trans hc1
            rw [HZ.out, errV_zero]
            go_wp2_with fail
            refine (contains_changed l _ _ (hm.never hw)).mono ?_
            rintro e w2 ⟨rfl, hc2⟩
            obtain ⟨x0, x1, x2⟩ := box3 (hc1.trans hc2)
            have hw := hw.trans hc2
            rw [HC.out]
            go_wp2_with fail
            refine (size_any ⟨o, n, l⟩ mv _ (hm.never hw)).mono ?_
            rintro e w3 ⟨rfl, hc3⟩
            obtain ⟨x0, x1, x2⟩ := box3 ((hc1.trans hc2).trans hc3)
            have hw := hw.trans hc3
            clear hc1 hc2 hc3
            go_wp2_with fail
            go_ret
            exact ⟨rfl, hw⟩

set_option maxHeartbeats 800000 in
theorem one_rest (o n : Int) (l : List Mark) (mv : Value) (fin more : Int) (w : World) (hm : Rdv w Never mv l) (f0 : -100000 ≤ fin) (f1 : fin ≤ 100000) (m0 : -100000 ≤ more) (m1 : more ≤ 100000)
    (HZ : Hid (scriptFault l = 0)) (HC : Hid (hasChange l = true)) (HR : ¬ (o < 0 ∨ 60 < o ∨ n < 0 ∨ 60 < n ∨ 60 < o + oldN l ∨ 60 < n + newN l)) :
    Calls Tryd.prog 89 #[.agg #[.int .i64 o, .int .i64 n, mv], .int .i64 fin, .int .i64 more] w fun e w' => e = .returned (errV (oneFault ⟨o, n, l⟩ fin more)) ∧ Chg Never w w' := by
  have E : oneFault ⟨o, n, l⟩ fin more = if o < fin ∨ n ≠ o + more then 2 else 0 := by
    unfold oneFault; rw [if_neg (fun h => h HZ.out), if_neg (by rw [HC.out]; decide), if_neg HR]
  rw [E]
  have hl := scriptFault_len HZ.out
  have l1 := oldN_le l
  have l2 := newN_le l
  clear E
  have a1 : 0 ≤ o := by omega
  have a2 : o ≤ 60 := by omega
  have a3 : 0 ≤ n := by omega
  have a4 : n ≤ 60 := by omega
  have a5 : o + oldN l ≤ 60 := by omega
  have a6 : n + newN l ≤ 60 := by omega
  clear HR
  by_cases b1 : o < fin
  · rw [if_pos (.inl b1)]
    go_enter Tryd.func89, Tryd.ntmps89
    go_wp2_with fail
    refine (edit_check_any l _ _ (hm.never ((Chg.refl _ _).alloc _))).mono ?_
    rintro e w1 ⟨rfl, hc1⟩
    obtain ⟨x0, x1, x2⟩ := box3 hc1
    have hw : Chg Never w w1 := ((Chg.refl _ _).alloc _).trans hc1
    rw [HZ.out, errV_zero]
    go_wp2_with fail
    refine (contains_changed l _ _ (hm.never hw)).mono ?_
    rintro e w2 ⟨rfl, hc2⟩
    obtain ⟨x0, x1, x2⟩ := box3 (hc1.trans hc2)
    have hw := hw.trans hc2
    rw [HC.out]
    go_wp2_with fail
    refine (size_any ⟨o, n, l⟩ mv _ (hm.never hw)).mono ?_
    rintro e w3 ⟨rfl, hc3⟩
    obtain ⟨x0, x1, x2⟩ := box3 ((hc1.trans hc2).trans hc3)
    have hw := hw.trans hc3
    clear hc1 hc2 hc3
    go_wp2_with fail
    go_ret
    exact ⟨rfl, hw⟩
  · by_cases b2 : n = o + more
    · rw [if_neg (by omega)]
      have t1 : (n != o + more) = false := by simp [b2]
      clear b2
      go_enter Tryd.func89, Tryd.ntmps89
      go_wp2_with fail
      refine (edit_check_any l _ _ (hm.never ((Chg.refl _ _).alloc _))).mono ?_
      rintro e w1 ⟨rfl, hc1⟩
      obtain ⟨x0, x1, x2⟩ := box3 hc1
      have hw : Chg Never w w1 := ((Chg.refl _ _).alloc _).trans hc1
      rw [HZ.out, errV_zero]
      go_wp2_with fail
      refine (contains_changed l _ _ (hm.never hw)).mono ?_
      rintro e w2 ⟨rfl, hc2⟩
      obtain ⟨x0, x1, x2⟩ := box3 (hc1.trans hc2)
      have hw := hw.trans hc2
      rw [HC.out]
      go_wp2_with fail
      refine (size_any ⟨o, n, l⟩ mv _ (hm.never hw)).mono ?_
      rintro e w3 ⟨rfl, hc3⟩
      obtain ⟨x0, x1, x2⟩ := box3 ((hc1.trans hc2).trans hc3)
      have hw := hw.trans hc3
      clear hc1 hc2 hc3
      go_wp2_with fail
      go_ret
      exact ⟨rfl, hw⟩
    · rw [if_pos (.inr b2)]
      have t1 : (n != o + more) = true := by simp [b2]
      clear b2
      go_enter Tryd.func89, Tryd.ntmps89
      go_wp2_with fail
      refine (edit_check_any l _ _ (hm.never ((Chg.refl _ _).alloc _))).mono ?_
      rintro e w1 ⟨rfl, hc1⟩
      obtain ⟨x0, x1, x2⟩ := box3 hc1
      have hw : Chg Never w w1 := ((Chg.refl _ _).alloc _).trans hc1
      rw [HZ.out, errV_zero]
      go_wp2_with fail
      refine (contains_changed l _ _ (hm.never hw)).mono ?_
      rintro e w2 ⟨rfl, hc2⟩
      obtain ⟨x0, x1, x2⟩ := box3 (hc1.trans hc2)
      have hw := hw.trans hc2
      rw [HC.out]
      go_wp2_with fail
      refine (size_any ⟨o, n, l⟩ mv _ (hm.never hw)).mono ?_
      rintro e w3 ⟨rfl, hc3⟩
      obtain ⟨x0, x1, x2⟩ := box3 ((hc1.trans hc2).trans hc3)
      have hw := hw.trans hc3
      clear hc1 hc2 hc3
      go_wp2_with fail
      go_ret
      exact ⟨rfl, hw⟩

theorem one_hunk (h : Hunk) (mv : Value) (fin more : Int) (w : World) (hm : Rdv w Never mv h.marks) (f0 : -100000 ≤ fin) (f1 : fin ≤ 100000) (m0 : -100000 ≤ more) (m1 : more ≤ 100000) :
    Calls Tryd.prog 89 #[.agg #[.int .i64 h.old, .int .i64 h.new, mv], .int .i64 fin, .int .i64 more] w fun e w' => e = .returned (errV (oneFault h fin more)) ∧ Chg Never w w' := by
  obtain ⟨o, n, l⟩ := h
  by_cases hz : scriptFault l = 0
  · by_cases hc : hasChange l = true
    · by_cases hr : o < 0 ∨ 60 < o ∨ n < 0 ∨ 60 < n ∨ 60 < o + oldN l ∨ 60 < n + newN l
      · exact one_range o n l mv fin more w hm f0 f1 m0 m1 hz hc hr
      · exact one_rest o n l mv fin more w hm f0 f1 m0 m1 hz hc hr
    · exact one_none o n l mv fin more w hm f0 f1 m0 m1 hz (by simpa [Hid] using hc)
  · exact one_script o n l mv fin more w hm f0 f1 m0 m1 hz
end Go.Proofs.YtpoammapjmddfaaDoor
