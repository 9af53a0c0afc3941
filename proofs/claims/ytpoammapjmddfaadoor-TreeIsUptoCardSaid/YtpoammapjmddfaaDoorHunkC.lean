/-
  THE WALKS OF LAYER 3: Check.
-/
import Derived.Test.YtpoammapjmddfaaDoorHunkB
namespace Go.Proofs.YtpoammapjmddfaaDoor
open Go.RowKit

theorem elems_hunk {w : World} {O : Nat → Prop} {a : Option Addr} {l : List Hunk} (h : Elems w O a l) {i : Nat} {x : Hunk} (hx : l[i]? = some x) :
    ∃ b off mv, a = some ⟨b, off, none⟩ ∧ ¬ O b ∧ b < w.heap.size ∧ w.cell? ⟨b, off + i * 3, none⟩ = some (.int .i64 x.old) ∧ w.cell? ⟨b, off + i * 3 + 1, none⟩ = some (.int .i64 x.new) ∧ w.cell? ⟨b, off + i * 3 + 2, none⟩ = some mv ∧ Rdv w O mv x.marks := by
  obtain ⟨b, off, es, ha, hb, hcs, mv, rfl, hs⟩ := h i x hx
  refine ⟨b, off, mv, ha, hb, hcs.lt (by simp), ?_, ?_, ?_, hs⟩
  · simpa [Dat.n] using hcs 0 _ rfl
  · simpa [Dat.n] using hcs 1 _ rfl
  · simpa [Dat.n] using hcs 2 _ rfl

theorem hunksGo_drop {l : List Hunk} {k : Nat} {x : Hunk} {i : Nat} {fin more : Int} (hx : l[k]? = some x) :
    hunksGo i fin more (l.drop k) = if oneFault x fin more = 0 then hunksGo (i + 1) (x.old + oldN x.marks) (more + newN x.marks - oldN x.marks) (l.drop (k + 1)) else (i, oneFault x fin more) := by
  rw [drop_eq hx, hunksGo]
theorem oneFault_zero {h : Hunk} {fin more : Int} (e : oneFault h fin more = 0) : scriptFault h.marks = 0 ∧ hasChange h.marks = true ∧ 0 ≤ h.old ∧ 0 ≤ h.new ∧ h.old + oldN h.marks ≤ 60 ∧ h.new + newN h.marks ≤ 60 ∧ fin ≤ h.old ∧ h.new = h.old + more := by
  unfold oneFault at e
  by_cases h1 : scriptFault h.marks ≠ 0
  · rw [if_pos h1] at e; exact absurd e h1
  · rw [if_neg h1] at e
    by_cases h2 : hasChange h.marks = false
    · rw [if_pos h2] at e; simp at e
    · rw [if_neg h2] at e
      by_cases h3 : h.old < 0 ∨ 60 < h.old ∨ h.new < 0 ∨ 60 < h.new ∨ 60 < h.old + oldN h.marks ∨ 60 < h.new + newN h.marks
      · rw [if_pos h3] at e; simp at e
      · rw [if_neg h3] at e
        by_cases h4 : h.old < fin ∨ h.new ≠ h.old + more
        · rw [if_pos h4] at e; simp at e
        · refine ⟨by simpa using h1, by simpa using h2, ?_⟩
          omega

set_option maxHeartbeats 800000 in
theorem hunk_check_any (l : List Hunk) (v : Value) (w : World) (h : Rdv w Never v l) :
    Calls Tryd.prog 57 #[v] w fun e w' => e = .returned (.tuple #[.int .i64 (hunksFault l).1, errV (hunksFault l).2]) ∧ Chg Never w w' := by
  obtain ⟨a, cap, rfl, h1, h2, h3⟩ := rdv_slice h
  unfold maxLen at h2
  by_cases h4 : 60 < l.length
  · have E : hunksFault l = (0, 3) := if_pos h4
    rw [E]
    clear E
    go_enter Tryd.func57, Tryd.ntmps57
    go_wp2_with fail
    go_ret2
    exact ⟨rfl, Chg.refl _ _⟩
  · have HE : Hid (hunksFault l = hunksGo 0 0 0 l) := if_neg h4
    go_enter Tryd.func57, Tryd.ntmps57
    go_wp2_with fail
    go_loopw [4, 5, 17] (fun s4 s5 i wr => ∃ (k : Nat) (fin more : Int), k ≤ l.length ∧ i = .int .i64 k ∧ s4 = .int .i64 fin ∧ s5 = .int .i64 more ∧ 0 ≤ fin ∧ fin ≤ 60 ∧ -60 ≤ more ∧ more ≤ 60 ∧ Hid (hunksGo k fin more (l.drop k) = hunksFault l) ∧ Chg Never w wr) (fun _ _ i _ => l.length - (intOf i).toNat)
    case atStart => exact ⟨0, 0, 0, Nat.zero_le _, rfl, rfl, rfl, by omega, by omega, by omega, by omega, HE.out.symm, Chg.refl _ _⟩
    case round =>
      obtain ⟨k, fin, more, hk, rfl, rfl, rfl, f0, f1, m0, m1, hf, hc⟩ := hrel
      by_cases hlt : k < l.length
      · obtain ⟨x, hx⟩ : ∃ x, l[k]? = some x := ⟨l[k], by simp [hlt]⟩
        obtain ⟨b, off, mv, rfl, _, _, c0, c1, c2, hmv⟩ := elems_hunk h3 hx
        have c0 := hc.cellNever c0
        have c1 := hc.cellNever c1
        have c2 := hc.cellNever c2
        have hmv := hmv.never hc
        obtain ⟨ma, mcap, rfl, _, _, _⟩ := rdv_slice hmv
        have HG := Lib.hid (hunksGo_drop (i := k) (fin := fin) (more := more) hx)
        clear hx h3 h
        by_cases hz : oneFault x fin more = 0
        · have hzz := oneFault_zero hz
          have HZ := Lib.hid hz
          obtain ⟨z1, z2, z3, z4, z5, z6, z7, z8⟩ := hzz
          have Z8 := Lib.hid z8
          have l1 := oldN_le x.marks
          have l2 := newN_le x.marks
          clear hz z1 z2 z8
          go_wp2_with fail
          refine (one_hunk x _ fin more _ (hmv.never ((Chg.refl _ _).alloc _)) (by omega) (by omega) (by omega) (by omega)).mono ?_
          rintro e w1 ⟨rfl, hc1⟩
          obtain ⟨x0, x1, x2⟩ := box3 hc1
          have hmv1 := (hmv.never ((Chg.refl _ _).alloc _)).never hc1
          rw [HZ.out, errV_zero]
          go_wp2_with fail
          refine (size_any x _ _ hmv1).mono ?_
          rintro e w2 ⟨rfl, hc2⟩
          obtain ⟨x0, x1, x2⟩ := box3 (hc1.trans hc2)
          have hw := (hc.alloc _).trans (hc1.trans hc2)
          clear hc1 hc2
          go_wp2_with fail
          go_roundw
          case rel => exact ⟨k + 1, x.old + oldN x.marks, more + newN x.marks - oldN x.marks, by omega, by go_num, rfl, rfl, by omega, by omega, by have := Z8.out; omega, by have := Z8.out; omega, by have := hf.out; rw [HG.out, if_pos HZ.out] at this; exact this, hw⟩
          case measure => simp [intOf] <;> omega
        · have HZ := Lib.hid hz
          clear hz
          go_wp2_with fail
          refine (one_hunk x _ fin more _ (hmv.never ((Chg.refl _ _).alloc _)) (by omega) (by omega) (by omega) (by omega)).mono ?_
          rintro e w1 ⟨rfl, hc1⟩
          have hw := (hc.alloc _).trans hc1
          clear hc1
          rw [errV_pos HZ.out]
          go_wp2_with fail
          go_ret2
          have E : hunksFault l = (k, oneFault x fin more) := by have := hf.out; rw [HG.out, if_neg HZ.out] at this; exact this.symm
          exact ⟨by rw [E]; show _ = Ending.returned (.tuple #[.int .i64 (k : Int), errV (oneFault x fin more)]); rw [errV_pos HZ.out]; rfl, hw⟩
      · go_wp2_with fail
        go_ret2
        have E : hunksFault l = (0, 0) := by have := hf.out; rw [List.drop_of_length_le (by omega), hunksGo] at this; exact this.symm
        exact ⟨by rw [E]; rfl, hc⟩
end Go.Proofs.YtpoammapjmddfaaDoor
