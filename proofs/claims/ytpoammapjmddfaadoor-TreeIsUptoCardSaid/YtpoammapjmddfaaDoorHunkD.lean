/-
  THE WALKS: the laws' Hunk, Hunks.
-/
import Derived.Test.YtpoammapjmddfaaDoorHunkC
namespace Go.Proofs.YtpoammapjmddfaaDoor
open Go.RowKit

theorem box3' {w w1 : World} {x y z x' y' z' : Value} {t t' : TypeId} (hc : Chg Never ((w.alloc (.cells #[x, y, z] t)).alloc (.cells #[x', y', z'] t')) w1) :
    (w1.cell? ⟨w.heap.size, 0, none⟩ = some x ∧ w1.cell? ⟨w.heap.size, 1, none⟩ = some y ∧ w1.cell? ⟨w.heap.size, 2, none⟩ = some z) ∧
    (w1.cell? ⟨w.heap.size + 1, 0, none⟩ = some x' ∧ w1.cell? ⟨w.heap.size + 1, 1, none⟩ = some y' ∧ w1.cell? ⟨w.heap.size + 1, 2, none⟩ = some z') := by
  have h1 := box3 (((Chg.refl Never _).alloc (.cells #[x', y', z'] t')).trans hc)
  have h2 := box3 hc
  simp only [World.size_alloc] at h2
  exact ⟨h1, h2⟩


theorem hunk_eq_any (h k : Hunk) (hv kv : Value) (w : World) (hh : Rdv w Never hv h.marks) (hk : Rdv w Never kv k.marks) :
    Calls Tryd.prog 25 #[.agg #[.int .i64 h.old, .int .i64 h.new, hv], .agg #[.int .i64 k.old, .int .i64 k.new, kv]] w fun e w' => e = .returned (.bool (decide (h = k))) ∧ Chg Never w w' := by
  obtain ⟨a, cap, rfl, _, _, _⟩ := rdv_slice hh
  obtain ⟨b, cap', rfl, _, _, _⟩ := rdv_slice hk
  have E : decide (h = k) = (decide (h.marks = k.marks) && h.old == k.old && h.new == k.new) := by
    obtain ⟨ho, hn, hm⟩ := h
    obtain ⟨ko, kn, km⟩ := k
    by_cases h1 : ho = ko <;> by_cases h2 : hn = kn <;> by_cases h3 : hm = km <;> simp [h1, h2, h3]
  rw [E]
  clear E
  by_cases hm : h.marks = k.marks
  · rw [decide_eq_true hm]
    have HM := Lib.hid (decide_eq_true hm)
    clear hm
    by_cases ho : h.old = k.old
    · have t1 : (h.old == k.old) = true := by simp [ho]
      rw [t1]
      clear ho
      go_enter Tryd.func25, Tryd.ntmps25
      go_wp2_with fail
      refine (marks_any h.marks k.marks _ _ _ (hh.never (((Chg.refl _ _).alloc _).alloc _)) (hk.never (((Chg.refl _ _).alloc _).alloc _))).mono ?_
      rintro e w1 ⟨rfl, hc1⟩
      obtain ⟨⟨x0, x1, x2⟩, ⟨y0, y1, y2⟩⟩ := box3' hc1
      have hw : Chg Never w w1 := (((Chg.refl _ _).alloc _).alloc _).trans hc1
      clear hc1
      rw [HM.out]
      go_wp2_with fail
      go_ret
      exact ⟨rfl, hw⟩
    · have t1 : (h.old == k.old) = false := by simp [ho]
      rw [t1]
      clear ho
      go_enter Tryd.func25, Tryd.ntmps25
      go_wp2_with fail
      refine (marks_any h.marks k.marks _ _ _ (hh.never (((Chg.refl _ _).alloc _).alloc _)) (hk.never (((Chg.refl _ _).alloc _).alloc _))).mono ?_
      rintro e w1 ⟨rfl, hc1⟩
      obtain ⟨⟨x0, x1, x2⟩, ⟨y0, y1, y2⟩⟩ := box3' hc1
      have hw : Chg Never w w1 := (((Chg.refl _ _).alloc _).alloc _).trans hc1
      clear hc1
      rw [HM.out]
      go_wp2_with fail
      go_ret
      exact ⟨rfl, hw⟩
  · rw [decide_eq_false hm]
    have HM := Lib.hid (decide_eq_false hm)
    clear hm
    go_enter Tryd.func25, Tryd.ntmps25
    go_wp2_with fail
    refine (marks_any h.marks k.marks _ _ _ (hh.never (((Chg.refl _ _).alloc _).alloc _)) (hk.never (((Chg.refl _ _).alloc _).alloc _))).mono ?_
    rintro e w1 ⟨rfl, hc1⟩
    obtain ⟨⟨x0, x1, x2⟩, ⟨y0, y1, y2⟩⟩ := box3' hc1
    have hw : Chg Never w w1 := (((Chg.refl _ _).alloc _).alloc _).trans hc1
    clear hc1
    rw [HM.out]
    go_wp2_with fail
    go_ret
    exact ⟨rfl, hw⟩

set_option maxRecDepth 100000 in
theorem hunks_eq_any (l m : List Hunk) (v u : Value) (w : World) (h : Rdv w Never v l) (g : Rdv w Never u m) :
    Calls Tryd.prog 70 #[v, u] w fun e w' => e = .returned (.bool (decide (l = m))) ∧ Chg Never w w' := by
  obtain ⟨a, cap, rfl, h1, h2, h3⟩ := rdv_slice h
  obtain ⟨c, cap', rfl, g1, g2, g3⟩ := rdv_slice g
  unfold maxLen at h2 g2
  by_cases h4 : l.length = m.length
  · have h4' : ((l.length : Int) != m.length) = false := by simp [h4]
    have H4 := Lib.hid h4
    clear h4
    go_enter Tryd.func70, Tryd.ntmps70
    go_wp2
    go_loopw [5] (fun i wr => ∃ k : Nat, k ≤ l.length ∧ i = .int .i64 k ∧ Hid (l.take k = m.take k) ∧ Chg Never w wr) (fun i _ => l.length - (intOf i).toNat)
    case atStart => exact ⟨0, Nat.zero_le _, rfl, by simp [Hid], Chg.refl _ _⟩
    case round =>
      obtain ⟨k, hk, rfl, hf, hc⟩ := hrel
      by_cases hlt : k < l.length
      · obtain ⟨x, hx⟩ : ∃ x, l[k]? = some x := ⟨l[k], by simp [hlt]⟩
        obtain ⟨y, hy⟩ : ∃ y, m[k]? = some y := ⟨m[k]'(by rw [← H4.out]; exact hlt), by simp [H4.out ▸ hlt]⟩
        obtain ⟨b, off, mv, rfl, _, _, c0, c1, c2, hmv⟩ := elems_hunk h3 hx
        obtain ⟨b', off', mv', rfl, _, _, d0, d1, d2, hmv'⟩ := elems_hunk g3 hy
        have c0 := hc.cellNever c0
        have c1 := hc.cellNever c1
        have c2 := hc.cellNever c2
        have d0 := hc.cellNever d0
        have d1 := hc.cellNever d1
        have d2 := hc.cellNever d2
        have hmv := hmv.never hc
        have hmv' := hmv'.never hc
        clear h3 g3 h g
        have hlm : k < m.length := by rw [← H4.out]; exact hlt
        have HX := Lib.hid hx
        have HY := Lib.hid hy
        clear hx hy
        have b1 : (k : Int) < l.length := by omega
        have b2 : (k : Int) < m.length := by omega
        go_wp2_with fail
        refine wp_region_still_tail 8 (by kernel_rfl) (by kernel_rfl) ?_
        simp only [List.take_succ_cons, List.take_zero, List.drop_succ_cons, List.drop_zero]
        change wpStill _ _ wr.drew _ _ _
        repeat still_step
        refine wpStill_nil ?_
        change wpList _ _ _ _ _ wr.drew
        have hcd : Chg Never w wr.drew := hc.drew
        have hmd := hmv.never ((Chg.refl Never wr).drew)
        have hmd' := hmv'.never ((Chg.refl Never wr).drew)
        generalize wr.drew = w3 at hcd hmd hmd'
        go_wp2_with fail
        refine (hunk_eq_any x y _ _ _ hmd hmd').mono ?_
        rintro e w4 ⟨rfl, hc4⟩
        have hc5 := hcd.trans hc4
        by_cases hxy : x = y
        · subst hxy
          rw [decide_eq_true rfl]
          go_wp2_with fail
          go_roundw
          case rel => exact ⟨k + 1, by omega, by go_num, take_same hf HX.out HY.out, hc5⟩
          case measure => simp [intOf] <;> omega
        · rw [decide_eq_false hxy]
          go_wp2_with fail
          go_ret
          exact ⟨by rw [decide_eq_false (ne_of_get HX.out HY.out hxy)]; rfl, hc5⟩
      · go_wp2
        go_ret
        have E : l = m := by
          have := hf.out
          rwa [List.take_of_length_le (by omega), List.take_of_length_le (by rw [← H4.out]; omega)] at this
        exact ⟨by rw [decide_eq_true E]; rfl, hc⟩
  · have h4' : ((l.length : Int) != m.length) = true := by simp; omega
    go_enter Tryd.func70, Tryd.ntmps70
    go_wp2
    go_ret
    exact ⟨by rw [decide_eq_false (fun e => h4 (by rw [e]))]; rfl, Chg.refl _ _⟩
end Go.Proofs.YtpoammapjmddfaaDoor
