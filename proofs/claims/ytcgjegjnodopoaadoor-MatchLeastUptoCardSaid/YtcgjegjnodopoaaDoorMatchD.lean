/-
  THE WALKS of match.Match, Cost.
-/
import Derived.Test.YtcgjegjnodopoaaDoorMatchC
namespace Go.Proofs.YtcgjegjnodopoaaDoor
open Go.RowKit

/-- what Match answers -/
def matchOut (l : List (List Int)) : List Int := if sqFault l = 0 then matchR l else []
set_option maxHeartbeats 1000000 in
set_option maxRecDepth 100000 in
theorem match_any (l : List (List Int)) (v : Value) (w : World) (h : Rdv w Never v l) :
    Calls Tryd.prog 14 #[v] w fun e w' => ∃ r, e = .returned (.tuple #[r, errV (sqFault l)]) ∧ Chg Never w w' ∧ Rdv w' (Old w.heap.size) r (matchOut l) := by
  by_cases hz : sqFault l = 0
  · obtain ⟨hn, hq⟩ := sq_bd hz
    have HZ := Lib.hid hz
    clear hz
    go_enter Tryd.func14, Tryd.ntmps14
    go_wp2_with fail
    refine (mcheck_any l _ _ h).mono ?_
    rintro e w' ⟨rfl, rfl⟩
    rw [HZ.out, errV_zero]
    go_wp2_with fail
    refine (choose_any l _ _ h hn hq).mono ?_
    rintro e w1 ⟨r, rfl, hc, hr⟩
    go_wp2_with fail
    go_ret2
    exact ⟨r, by rw [HZ.out]; rfl, hc, by unfold matchOut; rw [if_pos HZ.out]; exact hr⟩
  · go_enter Tryd.func14, Tryd.ntmps14
    go_wp2_with fail
    refine (mcheck_any l _ _ h).mono ?_
    rintro e w' ⟨rfl, rfl⟩
    rw [errV_pos hz]
    go_wp2_with fail
    go_ret2
    exact ⟨_, by rw [errV_pos hz]; rfl, Chg.refl _ _, by unfold matchOut; rw [if_neg hz]; exact rdv_nil _ _⟩

/-- a choice's cost; the fault -/
def costR (l : List (List Int)) (m : List Int) : Int × Int :=
  if sqFault l ≠ 0 then (0, sqFault l) else if m.length ≠ l.length then (0, 2) else match costGo l.length l m [] 0 with
    | none => (0, 2)
    | some s => (s, 0)
def SeenF (m : List Int) (G : Int → Int) : Prop := ∀ j, G j = if j ∈ m then 1 else 0
theorem SeenF.step {m : List Int} {G : Int → Int} (h : SeenF m G) (y : Int) : SeenF (m ++ [y]) (fun j => if j = y then 1 else G j) := fun j => by
  show (if j = y then (1 : Int) else G j) = _
  by_cases e : j = y
  · rw [if_pos e, if_pos (by simp [e])]
  · rw [if_neg e, h j]
    simp [e]
theorem SeenF.congr {m : List Int} {G K : Int → Int} (h : SeenF m G) (e : ∀ j, K j = G j) : SeenF m K := fun j => by rw [e j, h j]

set_option maxHeartbeats 2000000 in
set_option maxRecDepth 100000 in
theorem cost_any (l : List (List Int)) (m : List Int) (v u : Value) (w : World) (h : Rdv w Never v l) (g : Rdv w Never u m) :
    Calls Tryd.prog 17 #[v, u] w fun e w' => e = .returned (.tuple #[.int .i64 (costR l m).1, errV (costR l m).2]) ∧ Chg Never w w' := by
  have hv := h
  obtain ⟨a, cap, rfl, h1, h2, h3⟩ := rdv_slice h
  obtain ⟨c, cap', rfl, g1, g2, g3⟩ := rdv_slice g
  unfold maxLen at h2 g2
  by_cases hz : sqFault l = 0
  · obtain ⟨hn, hq⟩ := sq_bd hz
    have HZ := Lib.hid hz
    clear hz
    have hmm := @run_makeMap Tryd.prog
    by_cases hl : m.length = l.length
    · have t1 : ((m.length : Int) != l.length) = false := by simp [hl]
      have HL := Lib.hid hl
      have hlm : m.length ≤ 8 := by omega
      clear hl
      go_enter Tryd.func17, Tryd.ntmps17
      go_wp2_with fail
      refine (mcheck_any l _ _ hv).mono ?_
      rintro e w' ⟨rfl, rfl⟩
      rw [HZ.out, errV_zero]
      go_wp2_with fail
      have hA : Chg Never w (w.alloc (.map #[] 0)) := (Chg.refl Never w).alloc _
      have hm0 := intMap_made w
      clear hmm hv
      go_loopw [7, 25] (fun sm i wr => ∃ (S : Int) (k : Nat) (G : Int → Int), sm = .int .i64 S ∧ i = .int .i64 k ∧ k ≤ m.length ∧ 0 ≤ S ∧ S ≤ 100000 * k ∧ Chg Never w wr ∧ IntMap wr w.heap.size k G ∧ Hid (SeenF (m.take k) G) ∧ Hid (costGo l.length (l.drop k) (m.drop k) (m.take k) S = costGo l.length l m [] 0)) (fun _ i _ => m.length - (intOf i).toNat)
      case atStart => exact ⟨0, 0, _, rfl, rfl, Nat.zero_le _, Int.le_refl _, Int.le_refl _, hA, hm0, fun j => by simp, rfl⟩
      case round =>
        obtain ⟨S, k, G, rfl, rfl, hk, hS0, hS1, hw, hm, hG, hR⟩ := hrel
        by_cases hlt : k < m.length
        · obtain ⟨y, hy⟩ : ∃ y, m[k]? = some y := ⟨m[k], by simp [hlt]⟩
          obtain ⟨x, hx⟩ : ∃ x, l[k]? = some x := ⟨l[k]'(by rw [← HL.out]; exact hlt), by simp [HL.out ▸ hlt]⟩
          have hxl : x.length = l.length := (hq x (List.mem_of_getElem? hx)).1
          obtain ⟨b, off, rfl, _, hcy, hyi⟩ := elems_ints g3 hy
          obtain ⟨b', off', xv, rfl, _, _, hcx, hxr⟩ := elems_row h3 hx
          have hcx0 := hcx
          have hcx := hw.cellNever hcx
          have hcy := hw.cellNever hcy
          clear h3 g3 h g
          obtain ⟨ax, capx, rfl, x1, x2, x3⟩ := rdv_slice hxr
          unfold maxLen at x2
          clear hxr
          have hkl : (k : Int) < (l.length : Int) := by have := HL.out; omega
          have hlook := hm.look hyi
          have HX := Lib.hid hxl
          have HD := Lib.hid (drop_eq hx)
          have HM := Lib.hid (drop_eq hy)
          have HY := Lib.hid hy
          have HXX := Lib.hid hx
          clear hx hy hxl
          by_cases y0 : y < 0
          · clear hlook hcx
            have HB : Hid (costR l m = (0, 2)) := by
              have e := hR.out
              rw [HD.out, HM.out, costGo, if_pos (.inl y0)] at e
              unfold Hid costR
              rw [if_neg (by simp [HZ.out]), if_neg (by simp [HL.out]), ← e]
            clear hR
            go_wp2_with fail
            go_ret2
            exact ⟨by rw [HB.out]; rfl, hw⟩
          · by_cases y1 : (m.length : Int) ≤ y
            · clear hlook hcx
              have HB : Hid (costR l m = (0, 2)) := by
                have e := hR.out
                rw [HD.out, HM.out, costGo, if_pos (.inr (.inl (by have := HL.out; omega)))] at e
                unfold Hid costR
                rw [if_neg (by simp [HZ.out]), if_neg (by simp [HL.out]), ← e]
              clear hR
              go_wp2_with fail
              go_ret2
              exact ⟨by rw [HB.out]; rfl, hw⟩
            · by_cases y2 : y ∈ m.take k
              · have y3 : decide (0 < G y) = true := by rw [hG.out y, if_pos y2]; rfl
                clear hcx
                have HB : Hid (costR l m = (0, 2)) := by
                  have e := hR.out
                  rw [HD.out, HM.out, costGo, if_pos (.inr (.inr y2))] at e
                  unfold Hid costR
                  rw [if_neg (by simp [HZ.out]), if_neg (by simp [HL.out]), ← e]
                clear hR
                go_wp2_with fail
                go_ret2
                exact ⟨by rw [HB.out]; rfl, hw⟩
              · have y3 : decide (0 < G y) = false := by rw [hG.out y, if_neg y2]; rfl
                have hGy : G y = 0 := by rw [hG.out y, if_neg y2]
                obtain ⟨q, rfl⟩ : ∃ q : Nat, y = q := ⟨y.toNat, by omega⟩
                rw [hGy] at hlook y3
                have hqx : q < x.length := by rw [HX.out]; have := HL.out; omega
                obtain ⟨z, hz⟩ : ∃ z, x[q]? = some z := ⟨x[q], by simp [hqx]⟩
                obtain ⟨b2, off2, rfl, _, hcz, hzi⟩ := elems_ints x3 hz
                have hzb := (hq x (List.mem_of_getElem? HXX.out)).2 z (List.mem_of_getElem? hz)
                have hzd : Hid (x.getD q 0 = z) := by rw [Hid, List.getD_eq_getElem?_getD, hz]; rfl
                obtain ⟨w2, hrun, hm2, hc2⟩ := hm.put (j := (q : Int)) (c := 1) (by unfold maxLen; omega) hyi (by unfold I64; omega)
                have hw2 : Chg Never w w2 := hw.trans' hc2 (fun k hk hh => by subst hh; exact absurd hk (Nat.lt_irrefl _))
                have hcx2 := hw2.cellNever hcx0
                have hcz2 := hw2.cellNever hcz
                have HG2 : Hid (SeenF (m.take (k + 1)) (fun j => if j = (q : Int) then 1 else G j)) := by
                  have e := hG.out.step (q : Int)
                  rw [Hid, List.take_add_one, HY.out]
                  exact e
                have HR2 : Hid (costGo l.length (l.drop (k + 1)) (m.drop (k + 1)) (m.take (k + 1)) (S + z) = costGo l.length l m [] 0) := by
                  have e := hR.out
                  rw [HD.out, HM.out, costGo, if_neg (by have := HL.out; rintro (r | r | r)
                                                         · exact y0 r
                                                         · omega
                                                         · exact y2 r)] at e
                  rw [Hid, List.take_add_one, HY.out]
                  rw [show ((q : Int)).toNat = q from rfl, hzd.out] at e
                  exact e
                have hsum : wrap64 (S + z) = S + z := by unfold wrap64; omega
                clear hcx0 hcz x3 hc2 hz hR hG
                go_wp2_with fail
                go_roundw
                case rel => exact ⟨S + z, k + 1, _, rfl, by go_num, by omega, by omega, by omega, hw2, hm2, HG2, HR2⟩
                case measure => simp [intOf]; omega
        · have e := hR.out
          rw [List.drop_eq_nil_of_le (show l.length ≤ k by have := HL.out; omega), List.drop_eq_nil_of_le (show m.length ≤ k by omega), costGo] at e
          have HF : Hid (costR l m = (S, 0)) := by
            unfold Hid costR
            rw [if_neg (by simp [HZ.out]), if_neg (by simp [HL.out]), ← e]
          clear hR e
          go_wp2_with fail
          go_ret2
          exact ⟨by rw [HF.out]; rfl, hw⟩
    · have t1 : ((m.length : Int) != l.length) = true := by simp; omega
      have HC : Hid (costR l m = (0, 2)) := by unfold Hid costR; rw [if_neg (by simp [HZ.out]), if_pos hl]
      clear hl
      go_enter Tryd.func17, Tryd.ntmps17
      go_wp2_with fail
      refine (mcheck_any l _ _ hv).mono ?_
      rintro e w' ⟨rfl, rfl⟩
      rw [HZ.out, errV_zero]
      go_wp2_with fail
      go_ret2
      exact ⟨by rw [HC.out]; rfl, Chg.refl _ _⟩
  · have HC : Hid (costR l m = (0, sqFault l)) := by unfold Hid costR; rw [if_pos hz]
    go_enter Tryd.func17, Tryd.ntmps17
    go_wp2_with fail
    refine (mcheck_any l _ _ hv).mono ?_
    rintro e w' ⟨rfl, rfl⟩
    rw [errV_pos hz]
    go_wp2_with fail
    go_ret2
    exact ⟨by rw [HC.out, errV_pos hz]; rfl, Chg.refl _ _⟩
end Go.Proofs.YtcgjegjnodopoaaDoor
