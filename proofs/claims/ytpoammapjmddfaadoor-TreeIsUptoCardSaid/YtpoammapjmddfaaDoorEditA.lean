/-
  THE WALKS OF LAYER 2: checked, measure, Far.
-/
import Derived.Test.YtpoammapjmddfaaDoorLine
import Derived.Test.YtpoammapjmddfaaDoorFar
import Derived.StillTailTactics
namespace Go.Proofs.YtpoammapjmddfaaDoor
open Go.RowKit

def checkedFault (l m : List ByteArray) : Int := if linesFault l = 0 then linesFault m else linesFault l
theorem linesFault_len {l : List ByteArray} (h : linesFault l = 0) : l.length ≤ 60 := by
  unfold linesFault at h
  by_cases h1 : 60 < l.length
  · simp [h1] at h
  · omega
theorem checkedFault_zero {l m : List ByteArray} : checkedFault l m = 0 ↔ linesFault l = 0 ∧ linesFault m = 0 := by
  unfold checkedFault
  by_cases h : linesFault l = 0 <;> simp [h]

theorem checked_any (l m : List ByteArray) (v u : Value) (w : World) (h : Rdv w Never v l) (g : Rdv w Never u m) :
    Calls Tryd.prog 115 #[v, u] w fun e w' => e = .returned (errV (checkedFault l m)) ∧ w = w' := by
  by_cases hz : linesFault l = 0
  · go_enter Tryd.func115, Tryd.ntmps115
    go_wp2_with fail
    refine (check_any l _ _ h).mono ?_
    rintro e w' ⟨rfl, rfl⟩
    rw [hz, errV_zero]
    go_wp2_with fail
    refine (check_any m _ _ g).mono ?_
    rintro e w' ⟨rfl, rfl⟩
    go_wp2_with fail
    go_ret
    exact ⟨by unfold checkedFault; rw [if_pos hz]; rfl, rfl⟩
  · go_enter Tryd.func115, Tryd.ntmps115
    go_wp2_with fail
    refine (check_any l _ _ h).mono ?_
    rintro e w' ⟨rfl, rfl⟩
    rw [errV_pos hz]
    go_wp2_with fail
    go_ret
    exact ⟨by unfold checkedFault; rw [if_neg hz, errV_pos hz]; rfl, rfl⟩

def zeros : Array Value := Array.replicate 3721 (.int .i64 0)
theorem zero_table (w : World) : (zeroValue 205).run Tryd.prog w = .ok (.agg zeros) w := by kernel_rfl

/-- the table at block T holds the distances of all places behind (x, y) -/
def Fil (T : Nat) (wr : World) (l m : List ByteArray) (x y : Int) : Prop :=
  ∃ c : Array Value, wr.heap[T]? = some (.cells c 205 (0, 0)) ∧ c.size = 3721 ∧ (∀ j, j < 3721 → ∃ n, c[j]? = some (.int .i64 n)) ∧
    ∀ i k : Nat, i ≤ l.length → k ≤ m.length → (x < i ∨ (x = i ∧ y < k)) → c[i * 61 + k]? = some (.int .i64 (far (l.drop i) (m.drop k)))

theorem Fil.cell {T : Nat} {wr : World} {l m : List ByteArray} {x y : Int} (h : Fil T wr l m x y) {i k : Nat} (hi : i ≤ l.length) (hk : k ≤ m.length) (hp : x < i ∨ (x = i ∧ y < k)) :
    wr.cell? ⟨T, i * 61 + k, none⟩ = some (.int .i64 (far (l.drop i) (m.drop k))) := by
  obtain ⟨c, h1, h2, h3, h4⟩ := h
  simp only [World.cell?, h1]
  exact h4 i k hi hk hp
theorem Fil.any {T : Nat} {wr : World} {l m : List ByteArray} {x y : Int} (h : Fil T wr l m x y) {j : Nat} (hj : j < 3721) :
    ∃ n, wr.cell? ⟨T, j, none⟩ = some (.int .i64 n) := by
  obtain ⟨c, h1, h2, h3, h4⟩ := h
  simp only [World.cell?, h1]
  exact h3 j hj
theorem Fil.free {T : Nat} {wr : World} {l m : List ByteArray} {x y : Int} (h : Fil T wr l m x y) (j : Nat) : wr.frozen? ⟨T, j, none⟩ = false := by
  obtain ⟨c, h1, h2, h3, h4⟩ := h
  simp [World.frozen?, h1]

theorem Fil.set {T : Nat} {wr : World} {l m : List ByteArray} {i k : Nat} (h : Fil T wr l m i k) (hl : l.length ≤ 60) (hm : m.length ≤ 60) (hi : i ≤ l.length) (hk : k ≤ m.length) {n : Int} (hn : n = far (l.drop i) (m.drop k)) :
    Fil T (wr.setCell ⟨T, i * 61 + k, none⟩ (.int .i64 n)) l m i ((k : Int) - 1) := by
  obtain ⟨c, h1, h2, h3, h4⟩ := h
  refine ⟨c.setIfInBounds (i * 61 + k) (.int .i64 n), ?_, by simpa using h2, ?_, ?_⟩
  · simp [World.setCell, Array.getElem?_modify, h1]
  · intro j hj
    by_cases e : i * 61 + k = j
    · exact ⟨n, by rw [Array.getElem?_setIfInBounds, if_pos e, if_pos (by omega)]⟩
    · obtain ⟨n', hn'⟩ := h3 j hj
      exact ⟨n', by rw [Array.getElem?_setIfInBounds, if_neg e]; exact hn'⟩
  · intro i' k' hi' hk' hp
    by_cases e : i * 61 + k = i' * 61 + k'
    · have e1 : i' = i := by omega
      have e2 : k' = k := by omega
      subst e1 e2
      rw [Array.getElem?_setIfInBounds, if_pos e, if_pos (by omega), hn]
    · rw [Array.getElem?_setIfInBounds, if_neg e]
      refine h4 i' k' hi' hk' ?_
      rcases hp with hp | ⟨hp, hq⟩
      · exact .inl hp
      · rcases Int.lt_or_le k k' with h5 | h5
        · exact .inr ⟨hp, h5⟩
        · exact absurd (by omega) e

theorem Fil.drewN {T : Nat} {wr : World} {l m : List ByteArray} {x y : Int} (h : Fil T wr l m x y) (n : Nat) : Fil T (wr.drewN n) l m x y := h
theorem Fil.drew {T : Nat} {wr : World} {l m : List ByteArray} {x y : Int} (h : Fil T wr l m x y) : Fil T wr.drew l m x y := h

theorem Fil.start (w : World) (l m : List ByteArray) : Fil w.heap.size (w.alloc (.cells zeros 205)) l m l.length m.length := by
  refine ⟨zeros, heap_alloc_new _ _, by simp [zeros], ?_, ?_⟩
  · intro j hj
    exact ⟨0, by simp [zeros, hj]⟩
  · intro i k hi hk hp
    omega
theorem Fil.row {T : Nat} {wr : World} {l m : List ByteArray} {i : Nat} (h : Fil T wr l m i (-1)) : Fil T wr l m ((i : Int) - 1) m.length := by
  obtain ⟨c, h1, h2, h3, h4⟩ := h
  refine ⟨c, h1, h2, h3, ?_⟩
  intro i' k' hi' hk' hp
  refine h4 i' k' hi' hk' ?_
  omega

theorem far_end_l {l m : List ByteArray} {i k : Nat} (hi : i = l.length) (hk : k ≤ m.length) : (m.length : Int) - k = far (l.drop i) (m.drop k) := by
  rw [hi, List.drop_length, far_nil, List.length_drop]; omega
theorem far_end_m {l m : List ByteArray} {i k : Nat} (hk : k = m.length) (hi : i ≤ l.length) : (l.length : Int) - i = far (l.drop i) (m.drop k) := by
  rw [hk, List.drop_length, far_nil', List.length_drop]; omega
theorem far_eq {l m : List ByteArray} {i k : Nat} {x : ByteArray} (hx : l[i]? = some x) (hy : m[k]? = some x) : far (l.drop i) (m.drop k) = far (l.drop (i + 1)) (m.drop (k + 1)) := by
  rw [drop_eq hx, drop_eq hy, far_same]
theorem far_ne {l m : List ByteArray} {i k : Nat} {x y : ByteArray} (hx : l[i]? = some x) (hy : m[k]? = some y) (h : x ≠ y) :
    far (l.drop i) (m.drop k) = 1 + min (far (l.drop (i + 1)) (m.drop k)) (far (l.drop i) (m.drop (k + 1))) := by
  rw [drop_eq hx, drop_eq hy, far_cons, if_neg h, ← drop_eq hx, ← drop_eq hy]
theorem far_lt {l m : List ByteArray} (hl : l.length ≤ 60) (hm : m.length ≤ 60) (i k : Nat) : far (l.drop i) (m.drop k) ≤ 120 := by
  have := far_le (l.drop i) (m.drop k)
  simp only [List.length_drop] at this
  omega

set_option maxHeartbeats 800000 in
set_option maxRecDepth 100000 in
theorem measure_any (l m : List ByteArray) (v u : Value) (w : World) (h : Rdv w Never v l) (g : Rdv w Never u m) (hl : l.length ≤ 60) (hm : m.length ≤ 60) :
    Calls Tryd.prog 116 #[v, u] w fun e w' => e = .returned (.pointer (some ⟨w.heap.size, 0, none⟩)) ∧ Chg Never w w' ∧ Fil w.heap.size w' l m (-1) m.length := by
  obtain ⟨a, cap, rfl, h1, h2, h3⟩ := rdv_slice h
  obtain ⟨c, cap', rfl, g1, g2, g3⟩ := rdv_slice g
  unfold maxLen at h2 g2
  have hzt := zero_table
  go_enter Tryd.func116, Tryd.ntmps116
  go_wp2_with fail
  go_loopw [6, 7] (fun s6 s7 wr => ∃ x : Int, -1 ≤ x ∧ x ≤ l.length ∧ s6 = .int .i64 x ∧ Chg Never w wr ∧ Fil w.heap.size wr l m x m.length) (fun s6 _ _ => (intOf s6 + 1).toNat)
  case atStart => exact ⟨l.length, by omega, Int.le_refl _, rfl, (Chg.refl _ _).alloc _, Fil.start _ _ _⟩
  case round =>
    obtain ⟨x, hx1, hx2, rfl, hc, hF⟩ := hrel
    by_cases hx : 0 ≤ x
    · obtain ⟨i, rfl⟩ := Int.eq_ofNat_of_zero_le hx
      go_wp2_with fail
      go_loopw [7] (fun s7 wr' => ∃ y : Int, -1 ≤ y ∧ y ≤ m.length ∧ s7 = .int .i64 y ∧ Chg Never w wr' ∧ Fil w.heap.size wr' l m i y) (fun s7 _ => (intOf s7 + 1).toNat)
      case atStart => exact ⟨m.length, by omega, Int.le_refl _, rfl, hc, hF⟩
      case round =>
        rename_i wo _
        clear hF hc
        obtain ⟨y, hy1, hy2, rfl, hc, hF⟩ := hrel
        by_cases hy : 0 ≤ y
        · obtain ⟨k, rfl⟩ := Int.eq_ofNat_of_zero_le hy
          obtain ⟨n0, hn0⟩ := hF.any (j := i * 61 + k) (by omega)
          have hfr := hF.free (i * 61 + k)
          by_cases hil : i = l.length
          · have t1 : ((i : Int) == l.length) = true := by simp [hil]
            have HI := Lib.hid hil
            clear hil
            go_wp2_with fail
            go_roundw
            case rel => exact ⟨(k : Int) - 1, by omega, by omega, rfl, hc.setCell (.inl (Nat.le_refl _)) _, hF.set hl hm (by omega) (by omega) (far_end_l HI.out (by omega))⟩
            case measure => simp [intOf] <;> omega
          · have t1 : ((i : Int) == l.length) = false := by simp; omega
            by_cases hkm : k = m.length
            · have t2 : ((k : Int) == m.length) = true := by simp [hkm]
              have HK := Lib.hid hkm
              clear hkm
              go_wp2_with fail
              go_roundw
              case rel => exact ⟨(k : Int) - 1, by omega, by omega, rfl, hc.setCell (.inl (Nat.le_refl _)) _, hF.set hl hm (by omega) (by omega) (far_end_m HK.out (by omega))⟩
              case measure => simp [intOf] <;> omega
            · have t2 : ((k : Int) == m.length) = false := by simp; omega
              have b1 : (i : Int) < l.length := by omega
              have b2 : (k : Int) < m.length := by omega
              have b3 : i < l.length := by omega
              have b4 : k < m.length := by omega
              clear hil hkm
              obtain ⟨s, hs⟩ : ∃ s, l[i]? = some s := ⟨l[i], by simp [b3]⟩
              obtain ⟨t, ht⟩ : ∃ t, m[k]? = some t := ⟨m[k], by simp [b4]⟩
              obtain ⟨b, off, rfl, _, hbl, hcx, hxs⟩ := elems_str h3 hs
              obtain ⟨b', off', rfl, _, hbl', hcy, hys⟩ := elems_str g3 ht
              have hcx := hc.cellNever hcx
              have hcy := hc.cellNever hcy
              have HS := Lib.hid hs
              have HT := Lib.hid ht
              clear h3 g3 h g hs ht
              have c1 := hF.cell (i := i + 1) (k := k + 1) (by omega) (by omega) (by omega)
              have c2 := hF.cell (i := i + 1) (k := k) (by omega) (by omega) (by omega)
              have c3 := hF.cell (i := i) (k := k + 1) (by omega) (by omega) (by omega)
              have f2 := far_lt hl hm (i + 1) k
              have f3 := far_lt hl hm i (k + 1)
              by_cases hst : s = t
              · subst hst
                go_wp2_with fail
                go_quiet (fail)
                go_wp2_with fail
                generalize hw2 : World.drewN wr _ = w2
                have hc2 : Chg Never w w2 := hw2 ▸ hc.drewN _
                have hF2 : Fil w.heap.size w2 l m i k := hw2 ▸ hF.drewN _
                have hfr2 := hF2.free (i * 61 + k)
                have hn2 : w2.cell? ⟨w.heap.size, i * 61 + k, none⟩ = some (.int .i64 n0) := hw2 ▸ hn0
                have c1 := hF2.cell (i := i + 1) (k := k + 1) (by omega) (by omega) (by omega)
                have c2 := hF2.cell (i := i + 1) (k := k) (by omega) (by omega) (by omega)
                have c3 := hF2.cell (i := i) (k := k + 1) (by omega) (by omega) (by omega)
                clear hw2 hfr hn0 hc hF
                have e1 : IntKind.i64.wrap ((i : Int) + 1) = (i : Int) + 1 := IntWalk.i64_in _ (by omega)
                have e2 : IntKind.i64.wrap ((k : Int) + 1) = (k : Int) + 1 := IntWalk.i64_in _ (by omega)
                have e3 : (0 : Int) ≤ (i : Int) + 1 := by omega
                have e4 : (0 : Int) ≤ (k : Int) + 1 := by omega
                have e5 : (i : Int) + 1 < 61 := by omega
                have e6 : (k : Int) + 1 < 61 := by omega
                have e7 : ((i : Int) + 1).toNat = i + 1 := by omega
                have e8 : ((k : Int) + 1).toNat = k + 1 := by omega
                have e9 : (i : Int) < 61 := by omega
                have e10 : (k : Int) < 61 := by omega
                refine wp_region_still_tail 11 (by kernel_rfl) (by kernel_rfl) ?_
                simp only [List.take_succ_cons, List.take_zero, List.drop_succ_cons, List.drop_zero]
                change wpStill _ _ w2.drew _ _ _
                repeat still_step
                refine wpStill_nil ?_
                change wpList _ _ _ _ _ w2.drew
                have hn3 : w2.drew.cell? ⟨w.heap.size, i * 61 + k, none⟩ = some (.int .i64 n0) := hn2
                have hfr3 : w2.drew.frozen? ⟨w.heap.size, i * 61 + k, none⟩ = false := hfr2
                generalize hw3 : w2.drew = w3 at hn3 hfr3
                go_wp2_with fail
                clear e1 e2 e3 e4 e5 e6 e7 e8 e9 e10 c1 c2 c3
                have hc3 : Chg Never w w3 := hw3 ▸ hc2.drew
                have hF3 : Fil w.heap.size w3 l m i k := hw3 ▸ hF2.drew
                go_roundw
                case rel => exact ⟨(k : Int) - 1, by omega, by omega, rfl, hc3.setCell (.inl (Nat.le_refl _)) _, hF3.set hl hm (by omega) (by omega) (by rw [far_eq HS.out HT.out])⟩
                case measure => simp [intOf] <;> omega
              · have hne := str_beq_false hst
                go_wp2_with fail
                go_quiet (fail)
                go_wp2_with fail
                generalize hw2 : World.drewN wr _ = w2
                have hc2 : Chg Never w w2 := hw2 ▸ hc.drewN _
                have hF2 : Fil w.heap.size w2 l m i k := hw2 ▸ hF.drewN _
                have hfr2 := hF2.free (i * 61 + k)
                have hn2 : w2.cell? ⟨w.heap.size, i * 61 + k, none⟩ = some (.int .i64 n0) := hw2 ▸ hn0
                have c1 := hF2.cell (i := i + 1) (k := k + 1) (by omega) (by omega) (by omega)
                have c2 := hF2.cell (i := i + 1) (k := k) (by omega) (by omega) (by omega)
                have c3 := hF2.cell (i := i) (k := k + 1) (by omega) (by omega) (by omega)
                clear hw2 hfr hn0 hc hF
                have e1 : IntKind.i64.wrap ((i : Int) + 1) = (i : Int) + 1 := IntWalk.i64_in _ (by omega)
                have e2 : IntKind.i64.wrap ((k : Int) + 1) = (k : Int) + 1 := IntWalk.i64_in _ (by omega)
                have e3 : (0 : Int) ≤ (i : Int) + 1 := by omega
                have e4 : (0 : Int) ≤ (k : Int) + 1 := by omega
                have e5 : (i : Int) + 1 < 61 := by omega
                have e6 : (k : Int) + 1 < 61 := by omega
                have e7 : ((i : Int) + 1).toNat = i + 1 := by omega
                have e8 : ((k : Int) + 1).toNat = k + 1 := by omega
                have e9 : (i : Int) < 61 := by omega
                have e10 : (k : Int) < 61 := by omega
                refine wp_region_still_tail 18 (by kernel_rfl) (by kernel_rfl) ?_
                simp only [List.take_succ_cons, List.take_zero, List.drop_succ_cons, List.drop_zero]
                change wpStill _ _ w2.drew _ _ _
                repeat still_step
                refine wpStill_nil ?_
                change wpList _ _ _ _ _ w2.drew
                have hn3 : w2.drew.cell? ⟨w.heap.size, i * 61 + k, none⟩ = some (.int .i64 n0) := hn2
                have hfr3 : w2.drew.frozen? ⟨w.heap.size, i * 61 + k, none⟩ = false := hfr2
                generalize hw3 : w2.drew = w3 at hn3 hfr3
                go_wp2_with fail
                clear e1 e2 e3 e4 e5 e6 e7 e8 e9 e10 c1 c2 c3
                have hc3 : Chg Never w w3 := hw3 ▸ hc2.drew
                have hF3 : Fil w.heap.size w3 l m i k := hw3 ▸ hF2.drew
                go_roundw
                case rel => exact ⟨(k : Int) - 1, by omega, by omega, rfl, hc3.setCell (.inl (Nat.le_refl _)) _, hF3.set hl hm (by omega) (by omega) (by rw [far_ne HS.out HT.out hst]; omega)⟩
                case measure => simp [intOf] <;> omega
        · obtain rfl : y = -1 := by omega
          go_wp2_with fail
          go_roundw
          case rel => exact ⟨(i : Int) - 1, by omega, by omega, rfl, hc, hF.row⟩
          case measure => simp [intOf] <;> omega
    · obtain rfl : x = -1 := by omega
      go_wp2_with fail
      go_ret
      exact ⟨rfl, hc, hF⟩
end Go.Proofs.YtpoammapjmddfaaDoor
