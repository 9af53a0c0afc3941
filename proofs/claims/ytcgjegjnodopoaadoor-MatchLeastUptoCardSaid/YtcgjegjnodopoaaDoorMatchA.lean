/-
  THE WALKS of match.check and of the document's SquareFault: squares of costs.
-/
import Derived.Test.YtcgjegjnodopoaaDoorInts
import Derived.Test.YtcgjegjnodopoaaDoorElems
namespace Go.Proofs.YtcgjegjnodopoaaDoor
open Go.RowKit

def costBad (c : Int) : Int := if c < 0 ∨ 100000 < c then 1 else 0
def rowFault (n : Nat) (row : List Int) : Int := if row.length ≠ n then 2 else firstOf costBad row
def sqFault (c : List (List Int)) : Int := if 8 < c.length then 3 else firstOf (rowFault c.length) c

set_option maxHeartbeats 1000000 in
set_option maxRecDepth 100000 in
theorem mcheck_any (l : List (List Int)) (v : Value) (w : World) (h : Rdv w Never v l) :
    Calls Tryd.prog 24 #[v] w fun e w' => e = .returned (errV (sqFault l)) ∧ w = w' := by
  obtain ⟨a, cap, rfl, h1, h2, h3⟩ := rdv_slice h
  unfold maxLen at h2
  by_cases h4 : 8 < l.length
  · go_enter Tryd.func24, Tryd.ntmps24
    go_wp2_with fail
    go_ret
    exact ⟨by simp [sqFault, h4, errV], rfl⟩
  · go_enter Tryd.func24, Tryd.ntmps24
    go_wp2_with fail
    go_loop [13] (fun i => ∃ k : Nat, k ≤ l.length ∧ i = .int .i64 k ∧ Hid (firstOf (rowFault l.length) (l.drop k) = sqFault l)) (fun i => l.length - (intOf i).toNat)
    case atStart => exact ⟨0, Nat.zero_le _, rfl, by simp [Hid, sqFault, h4]⟩
    case round =>
      obtain ⟨k, hk, rfl, hf⟩ := hrel
      by_cases hlt : k < l.length
      · obtain ⟨x, hx⟩ : ∃ x, l[k]? = some x := ⟨l[k], by simp [hlt]⟩
        obtain ⟨b, off, v, rfl, _, _, hc, hr⟩ := elems_row h3 hx
        have hd := Lib.hid (drop_eq hx)
        clear hx h3 h
        obtain ⟨a', cap', rfl, g1, g2, g3⟩ := rdv_slice hr
        unfold maxLen at g2
        clear hr
        by_cases hz : x.length = l.length
        · have t1 : ((x.length : Int) != l.length) = false := by simp [hz]
          have HZ := Lib.hid hz
          clear hz
          go_wp2_with fail
          go_loop [25] (fun i => ∃ j : Nat, j ≤ x.length ∧ i = .int .i64 j ∧ Hid (firstOf costBad (x.drop j) = rowFault l.length x)) (fun i => x.length - (intOf i).toNat)
          case atStart => exact ⟨0, Nat.zero_le _, rfl, by simp [Hid, rowFault, HZ.out]⟩
          case round =>
            obtain ⟨j, hj, rfl, hg⟩ := hrel
            by_cases hjt : j < x.length
            · obtain ⟨y, hy⟩ : ∃ y, x[j]? = some y := ⟨x[j], by simp [hjt]⟩
              obtain ⟨b', off', rfl, _, hcy, hyi⟩ := elems_ints g3 hy
              have he := Lib.hid (drop_eq hy)
              clear hy g3
              by_cases hbad : costBad y = 0
              · have b1 : ¬ y < 0 := fun q => by unfold costBad at hbad; rw [if_pos (.inl q)] at hbad; cases hbad
                have b2 : ¬ 100000 < y := fun q => by unfold costBad at hbad; rw [if_pos (.inr q)] at hbad; cases hbad
                have HB := Lib.hid hbad
                clear hbad
                go_wp2_with fail
                go_round
                case rel => exact ⟨j + 1, by omega, by go_num, by have := hg.out; rw [he.out, firstOf, if_pos HB.out] at this; exact this⟩
                case measure => simp [intOf]; omega
              · have E : Hid (sqFault l = 1) := by
                  have q1 := hg.out
                  rw [he.out, firstOf, if_neg hbad] at q1
                  have q2 := hf.out
                  have q3 : costBad y = 1 := by unfold costBad at hbad ⊢; split at hbad; · (rename_i q; rw [if_pos q])
                                                · exact absurd rfl hbad
                  rw [hd.out, firstOf, ← q1, q3, if_neg (by decide)] at q2
                  exact q2.symm
                by_cases b1 : y < 0
                · clear hbad
                  go_wp2_with fail
                  go_ret
                  exact ⟨by rw [E.out]; rfl, rfl⟩
                · have b2 : 100000 < y := by
                    unfold costBad at hbad
                    split at hbad
                    · rename_i q; omega
                    · exact absurd rfl hbad
                  clear hbad
                  go_wp2_with fail
                  go_ret
                  exact ⟨by rw [E.out]; rfl, rfl⟩
            · go_wp2_with fail
              go_round
              case rel =>
                refine ⟨k + 1, by omega, by go_num, ?_⟩
                have q1 := hg.out
                rw [List.drop_eq_nil_of_le (by omega)] at q1
                have q2 := hf.out
                rw [hd.out, firstOf, ← q1, firstOf, if_pos rfl] at q2
                exact q2
              case measure => simp [intOf]; omega
        · have t1 : ((x.length : Int) != l.length) = true := by simp; omega
          have HZ := Lib.hid hz
          clear hz
          go_wp2_with fail
          go_ret
          have E : errV (sqFault l) = errV 2 := by rw [← hf.out, hd.out, firstOf, rowFault, if_pos HZ.out, if_neg (by decide)]
          exact ⟨by rw [E]; rfl, rfl⟩
      · go_wp2_with fail
        go_ret
        have E := hf.out
        rw [List.drop_eq_nil_of_le (by omega), firstOf] at E
        exact ⟨by rw [← E]; rfl, rfl⟩

set_option maxHeartbeats 1000000 in
set_option maxRecDepth 100000 in
theorem refSquare_any (l : List (List Int)) (v : Value) (w : World) (h : Rdv w Never v l) :
    Calls Tryd.prog 12 #[v] w fun e w' => e = .returned (.int .i64 (sqFault l)) ∧ w = w' := by
  obtain ⟨a, cap, rfl, h1, h2, h3⟩ := rdv_slice h
  unfold maxLen at h2
  by_cases h4 : 8 < l.length
  · go_enter Tryd.func12, Tryd.ntmps12
    go_wp2_with fail
    go_ret
    exact ⟨by simp [sqFault, h4], rfl⟩
  · go_enter Tryd.func12, Tryd.ntmps12
    go_wp2_with fail
    go_loop [3] (fun i => ∃ k : Nat, k ≤ l.length ∧ i = .int .i64 k ∧ Hid (firstOf (rowFault l.length) (l.drop k) = sqFault l)) (fun i => l.length - (intOf i).toNat)
    case atStart => exact ⟨0, Nat.zero_le _, rfl, by simp [Hid, sqFault, h4]⟩
    case round =>
      obtain ⟨k, hk, rfl, hf⟩ := hrel
      by_cases hlt : k < l.length
      · obtain ⟨x, hx⟩ : ∃ x, l[k]? = some x := ⟨l[k], by simp [hlt]⟩
        obtain ⟨b, off, v, rfl, _, _, hc, hr⟩ := elems_row h3 hx
        have hd := Lib.hid (drop_eq hx)
        clear hx h3 h
        obtain ⟨a', cap', rfl, g1, g2, g3⟩ := rdv_slice hr
        unfold maxLen at g2
        clear hr
        by_cases hz : x.length = l.length
        · have t1 : ((x.length : Int) != l.length) = false := by simp [hz]
          have HZ := Lib.hid hz
          clear hz
          go_wp2_with fail
          go_loop [4] (fun i => ∃ j : Nat, j ≤ x.length ∧ i = .int .i64 j ∧ Hid (firstOf costBad (x.drop j) = rowFault l.length x)) (fun i => x.length - (intOf i).toNat)
          case atStart => exact ⟨0, Nat.zero_le _, rfl, by simp [Hid, rowFault, HZ.out]⟩
          case round =>
            obtain ⟨j, hj, rfl, hg⟩ := hrel
            by_cases hjt : j < x.length
            · obtain ⟨y, hy⟩ : ∃ y, x[j]? = some y := ⟨x[j], by simp [hjt]⟩
              obtain ⟨b', off', rfl, _, hcy, hyi⟩ := elems_ints g3 hy
              have he := Lib.hid (drop_eq hy)
              clear hy g3
              by_cases hbad : costBad y = 0
              · have b1 : ¬ y < 0 := fun q => by unfold costBad at hbad; rw [if_pos (.inl q)] at hbad; cases hbad
                have b2 : ¬ 100000 < y := fun q => by unfold costBad at hbad; rw [if_pos (.inr q)] at hbad; cases hbad
                have HB := Lib.hid hbad
                clear hbad
                go_wp2_with fail
                go_round
                case rel => exact ⟨j + 1, by omega, by go_num, by have := hg.out; rw [he.out, firstOf, if_pos HB.out] at this; exact this⟩
                case measure => simp [intOf]; omega
              · have E : Hid (sqFault l = 1) := by
                  have q1 := hg.out
                  rw [he.out, firstOf, if_neg hbad] at q1
                  have q2 := hf.out
                  have q3 : costBad y = 1 := by unfold costBad at hbad ⊢; split at hbad; · (rename_i q; rw [if_pos q])
                                                · exact absurd rfl hbad
                  rw [hd.out, firstOf, ← q1, q3, if_neg (by decide)] at q2
                  exact q2.symm
                by_cases b1 : y < 0
                · clear hbad
                  go_wp2_with fail
                  go_ret
                  exact ⟨by rw [E.out]; rfl, rfl⟩
                · have b2 : 100000 < y := by
                    unfold costBad at hbad
                    split at hbad
                    · rename_i q; omega
                    · exact absurd rfl hbad
                  clear hbad
                  go_wp2_with fail
                  go_ret
                  exact ⟨by rw [E.out]; rfl, rfl⟩
            · go_wp2_with fail
              go_round
              case rel =>
                refine ⟨k + 1, by omega, by go_num, ?_⟩
                have q1 := hg.out
                rw [List.drop_eq_nil_of_le (by omega)] at q1
                have q2 := hf.out
                rw [hd.out, firstOf, ← q1, firstOf, if_pos rfl] at q2
                exact q2
              case measure => simp [intOf]; omega
        · have t1 : ((x.length : Int) != l.length) = true := by simp; omega
          have HZ := Lib.hid hz
          clear hz
          go_wp2_with fail
          go_ret
          have E : sqFault l = 2 := by rw [← hf.out, hd.out, firstOf, rowFault, if_pos HZ.out, if_neg (by decide)]
          exact ⟨by rw [E]; rfl, rfl⟩
      · go_wp2_with fail
        go_ret
        have E := hf.out
        rw [List.drop_eq_nil_of_le (by omega), firstOf] at E
        exact ⟨by rw [← E]; rfl, rfl⟩
end Go.Proofs.YtcgjegjnodopoaaDoor
