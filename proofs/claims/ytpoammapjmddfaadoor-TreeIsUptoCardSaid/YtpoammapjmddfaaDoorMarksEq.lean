/-
  THE WALKS: edit.Old, edit.New; the laws' Marks.
-/
import Derived.Test.YtpoammapjmddfaaDoorMarks
import Derived.Laws.StructEq
namespace Go.Proofs.YtpoammapjmddfaaDoor
open Go.RowKit

theorem old_any (l : List Mark) (v : Value) (w : World) (h : Rdv w Never v l) :
    Calls Tryd.prog 135 #[v] w fun e w' => ∃ r, e = .returned (.tuple #[r, errV (scriptFault l)]) ∧ Chg Never w w' ∧ Rdv w' (Old w.heap.size) r (thoseR l 43) := by
  go_enter Tryd.func135, Tryd.ntmps135
  go_wp2_with fail
  refine (those_any l 43 _ _ h).mono ?_
  rintro e w1 ⟨r, rfl, hc, hr⟩
  go_wp2_with fail
  go_ret2
  exact ⟨r, rfl, hc, hr⟩
theorem new_any (l : List Mark) (v : Value) (w : World) (h : Rdv w Never v l) :
    Calls Tryd.prog 136 #[v] w fun e w' => ∃ r, e = .returned (.tuple #[r, errV (scriptFault l)]) ∧ Chg Never w w' ∧ Rdv w' (Old w.heap.size) r (thoseR l 45) := by
  go_enter Tryd.func136, Tryd.ntmps136
  go_wp2_with fail
  refine (those_any l 45 _ _ h).mono ?_
  rintro e w1 ⟨r, rfl, hc, hr⟩
  go_wp2_with fail
  go_ret2
  exact ⟨r, rfl, hc, hr⟩

theorem mark_stood : Tryd.prog.stoodInHeld 80 = false := by kernel_rfl
theorem mark_guard : Tryd.prog.eqGuardType Tryd.prog.depth 80 = false := by kernel_rfl
theorem mark_fields : Tryd.prog.underlying 80 = some (.struct (Tryd.prog.fieldsOf 80)) := by kernel_rfl
theorem mark_eq (w : World) (sx sy : Int) (tx ty : ByteArray) :
    (Op.equalIn 10000 80 (.agg #[.int .u8 sx, .string tx]) (.agg #[.int .u8 sy, .string ty])).run Tryd.prog w = .ok (sx == sy && tx.toList == ty.toList) w := by
  rw [run_equalIn_struct w 9999 _ _ _ mark_fields mark_stood]
  have hu := Tryd.underlying80
  simp [Program.fieldsOf, hu, Op.eqFields, part, go_sem]
  by_cases h1 : sx = sy <;> by_cases h2 : tx.toList = ty.toList <;> simp [h1, h2]
theorem mark_ne {x y : Mark} (h : x ≠ y) : (x.sign == y.sign && x.text.toList == y.text.toList) = false := by
  obtain ⟨sx, tx⟩ := x
  obtain ⟨sy, ty⟩ := y
  by_cases h1 : sx = sy
  · have h2 : tx ≠ ty := fun e => h (by rw [h1, e])
    simp [str_beq_false h2]
  · simp [h1]

theorem marks_any (l m : List Mark) (v u : Value) (w : World) (h : Rdv w Never v l) (g : Rdv w Never u m) :
    Calls Tryd.prog 60 #[v, u] w fun e w' => e = .returned (.bool (decide (l = m))) ∧ Chg Never w w' := by
  obtain ⟨a, cap, rfl, h1, h2, h3⟩ := rdv_slice h
  obtain ⟨c, cap', rfl, g1, g2, g3⟩ := rdv_slice g
  unfold maxLen at h2 g2
  by_cases h4 : l.length = m.length
  · have h4' : ((l.length : Int) != m.length) = false := by simp [h4]
    have H4 := Lib.hid h4
    clear h4
    go_enter Tryd.func60, Tryd.ntmps60
    go_wp2
    go_loopw [5] (fun i wr => ∃ k : Nat, k ≤ l.length ∧ i = .int .i64 k ∧ Hid (l.take k = m.take k) ∧ Chg Never w wr) (fun i _ => l.length - (intOf i).toNat)
    case atStart => exact ⟨0, Nat.zero_le _, rfl, by simp [Hid], Chg.refl _ _⟩
    case round =>
      obtain ⟨k, hk, rfl, hf, hc⟩ := hrel
      by_cases hlt : k < l.length
      · obtain ⟨x, hx⟩ : ∃ x, l[k]? = some x := ⟨l[k], by simp [hlt]⟩
        obtain ⟨y, hy⟩ : ∃ y, m[k]? = some y := ⟨m[k]'(by rw [← H4.out]; exact hlt), by simp [H4.out ▸ hlt]⟩
        obtain ⟨b, off, rfl, _, _, c0, c1, s0, s1, hxs⟩ := elems_mark h3 hx
        obtain ⟨b', off', rfl, _, _, d0, d1, r0, r1, hys⟩ := elems_mark g3 hy
        have c0 := hc.cellNever c0
        have c1 := hc.cellNever c1
        have d0 := hc.cellNever d0
        have d1 := hc.cellNever d1
        clear h3 g3 h g
        have hlm : k < m.length := by rw [← H4.out]; exact hlt
        have HX := Lib.hid hx
        have HY := Lib.hid hy
        clear hx hy
        have b1 : (k : Int) < l.length := by omega
        have b2 : (k : Int) < m.length := by omega
        have heq := mark_eq
        have hgd := mark_guard
        by_cases hxy : x = y
        · have HXY := Lib.hid hxy
          subst hxy
          obtain ⟨sx, tx⟩ := x
          simp only at c0 c1 d0 d1 s0 s1 r0 r1 hxs hys
          go_wp2
          go_quiet (fail)
          go_wp2
          go_roundw
          case rel => exact ⟨k + 1, by omega, by go_num, take_same hf HX.out HY.out, hc.drewN _⟩
          case measure => simp [intOf] <;> omega
        · have hne := mark_ne hxy
          have HXY := Lib.hid hxy
          obtain ⟨sx, tx⟩ := x
          obtain ⟨sy, ty⟩ := y
          simp only at c0 c1 d0 d1 s0 s1 r0 r1 hxs hys hne
          clear hxy
          go_wp2
          go_quiet (fail)
          go_wp2
          go_ret
          exact ⟨by rw [decide_eq_false (ne_of_get HX.out HY.out HXY.out)]; rfl, hc.drewN _⟩
      · go_wp2
        go_ret
        have E : l = m := by
          have := hf.out
          rwa [List.take_of_length_le (by omega), List.take_of_length_le (by rw [← H4.out]; omega)] at this
        exact ⟨by rw [decide_eq_true E]; rfl, hc⟩
  · have h4' : ((l.length : Int) != m.length) = true := by simp; omega
    go_enter Tryd.func60, Tryd.ntmps60
    go_wp2
    go_ret
    exact ⟨by rw [decide_eq_false (fun e => h4 (by rw [e]))]; rfl, Chg.refl _ _⟩
end Go.Proofs.YtpoammapjmddfaaDoor
