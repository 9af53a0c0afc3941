/-
  PARTS: THE WALK of match.Range.; THE WALK of handstitchsame.Pick: some number below n.; TWO PAIRS OF NUMBERS ([2]int), compared.
-/
import Derived.Test.YtjiaidchcldocaaGreatDoorPg1
import Derived.Test.YtjiaidchcldocaaGreatDoorPg2
import Derived.Test.YtjiaidchcldocaaGreatDoorPg3
import Derived.Test.YtjiaidchcldocaaGreatDoorPg4
import Derived.Test.YtjiaidchcldocaaGreatDoorPg5
import Derived.Test.YtjiaidchcldocaaGreatDoorPg6
import Derived.Test.YtjiaidchcldocaaGreatDoorPg7
import Derived.Test.YtjiaidchcldocaaGreatDoorPg8
import Derived.Test.YtjiaidchcldocaaGreatDoorPg9
import Derived.Test.YtjiaidchcldocaaGreatDoorPg10
import Derived.Test.YtjiaidchcldocaaGreatDoorPg11
import Derived.Test.YtjiaidchcldocaaGreatDoorPg12
import Derived.Test.YtjiaidchcldocaaGreatDoorPg13
import Derived.Test.YtjiaidchcldocaaGreatDoorPg14
import Derived.Test.YtjiaidchcldocaaGreatDoorPg15
import Derived.Test.YtjiaidchcldocaaGreatDoorPg16
import Derived.Test.YtjiaidchcldocaaGreatDoorPg17
import Derived.Test.YtjiaidchcldocaaGreatDoorPg18
import Derived.Test.YtjiaidchcldocaaGreatDoorPg19
import Derived.Test.YtjiaidchcldocaaGreatDoorPg20
import Derived.Test.YtjiaidchcldocaaGreatDoorPg21
import Derived.Test.YtjiaidchcldocaaGreatDoorPg22
import Derived.Test.YtjiaidchcldocaaGreatDoorPg23
import Derived.Test.YtjiaidchcldocaaGreatDoorPg24
import Derived.Test.YtjiaidchcldocaaGreatDoorPg25
import Derived.Test.YtjiaidchcldocaaGreatDoorPg26
import Derived.Test.YtjiaidchcldocaaGreatDoorPg27
import Derived.Test.YtjiaidchcldocaaGreatDoorPg28
import Derived.Test.YtjiaidchcldocaaGreatDoorPg29
import Derived.Test.YtjiaidchcldocaaGreatDoorPg30
import Derived.Test.YtjiaidchcldocaaGreatDoorPg31
import Derived.Test.YtjiaidchcldocaaGreatDoorPg32
import Derived.Test.YtjiaidchcldocaaGreatDoorPg33
import Derived.Test.YtjiaidchcldocaaGreatDoorPg34
import Derived.Test.YtjiaidchcldocaaGreatDoorPg35
import Derived.Test.YtjiaidchcldocaaGreatDoorPg36
import Derived.Test.YtjiaidchcldocaaGreatDoorPg37
import Derived.Test.YtjiaidchcldocaaGreatDoorPg38
import Derived.Test.YtjiaidchcldocaaGreatDoorQh4
set_option linter.unusedVariables false
set_option linter.unusedSimpArgs false
namespace Go.Proofs.YtjiaidchcldocaaGreatDoor
open Go.RowKit

theorem elemOk_pair : ElemOk Tryz.prog 75 78 2 := elemOk_of Tryz.underlying75 (z := .agg #[.int .i64 0, .int .i64 0]) (b := 16) (by kernel_rfl) rfl (by decide)
/-- the costs' rows, of which row i is being built -/
structure CostRows (A B : List (List ByteArray)) (BB : Nat) (wr : World) (i : Nat) (g : Nat → Value) : Prop where
  row : ValRow 23 BB wr (A.length + B.length) g
  done : ∀ j, j < i → Rdv wr (fun x => x = BB) (g j) (rowOf A B j)
  rest : ∀ j, i ≤ j → j < A.length + B.length → g j = .slice none 0 0
theorem rows_rdv {A B : List (List ByteArray)} {BB : Nat} {wr : World} {g : Nat → Value} (h : CostRows A B BB wr (A.length + B.length) g) (hl : A.length + B.length ≤ 8) : Rdv wr Never (.slice (some ⟨BB, 0, none⟩) (A.length + B.length) (A.length + B.length)) (costsOf A B) := by
  refine ⟨some ⟨BB, 0, none⟩, A.length + B.length, by rw [costs_len], by rw [costs_len]; exact Nat.le_refl _, by unfold maxLen; omega, ?_⟩
  intro j x hx
  have hj := (List.getElem?_eq_some_iff.1 hx).1
  rw [costs_len] at hj
  unfold costsOf at hx
  rw [List.getElem?_map, List.getElem?_range hj] at hx
  simp only [Option.map_some, Option.some.injEq] at hx
  subst hx
  refine ⟨BB, 0, [g j], rfl, fun q => q, ?_, (h.done j hj).sub (fun _ _ q => q.elim)⟩
  intro q u hq
  match q, hq with
  | 0, hq =>
    simp only [List.getElem?_cons_zero, Option.some.injEq] at hq
    subst hq
    have := h.row.cell hj
    rw [show 0 + j * Dat.n (List Int) + 0 = j by show 0 + j * 1 + 0 = j; omega]
    exact this
def isLeft (b a : Nat) (M : List Int) (j : Nat) : Int → Int := fun c => if c ∈ (M.take j).drop a ∧ 0 ≤ c ∧ c < b then 1 else 0
theorem firsts_stop {a b : Nat} {m : List Int} {j : Nat} (h : a ≤ j) : ((List.range a).take (j + 1)).map (firstsOf b m) = ((List.range a).take j).map (firstsOf b m) := by
  rw [List.take_of_length_le (by rw [List.length_range]; omega), List.take_of_length_le (by rw [List.length_range]; omega)]
theorem left_step {b a : Nat} {M : List Int} {j : Nat} {c : Int} (hx : M[j]? = some c) (ha : a ≤ j) (h0 : 0 ≤ c) (hb : c < b) (F : Int → Int) (h : ∀ z, F z = isLeft b a M j z) : ∀ z, (if z = c then 1 else F z) = isLeft b a M (j + 1) z := fun z => by
  have e : (M.take (j + 1)).drop a = (M.take j).drop a ++ [c] := by
    have hj := (List.getElem?_eq_some_iff.1 hx).1
    rw [List.take_add_one, hx, Option.toList_some, List.drop_append_of_le_length (by rw [List.length_take]; omega)]
  unfold isLeft
  rw [e]
  by_cases q : z = c
  · subst q
    rw [if_pos rfl, if_pos ⟨by simp, h0, hb⟩]
  · rw [if_neg q, h z]
    unfold isLeft
    congr 1
    simp [q]
theorem left_same {b a : Nat} {M : List Int} {j : Nat} {c : Int} (hx : M[j]? = some c) (hn : j < a ∨ ¬ c < b) : ∀ z, isLeft b a M (j + 1) z = isLeft b a M j z := fun z => by
  unfold isLeft
  have hj := (List.getElem?_eq_some_iff.1 hx).1
  rcases hn with h | h
  · rw [List.drop_of_length_le (by rw [List.length_take]; omega), List.drop_of_length_le (by rw [List.length_take]; omega)]
  · by_cases ha : j < a
    · rw [List.drop_of_length_le (by rw [List.length_take]; omega), List.drop_of_length_le (by rw [List.length_take]; omega)]
    · have e : (M.take (j + 1)).drop a = (M.take j).drop a ++ [c] := by
        rw [List.take_add_one, hx, Option.toList_some, List.drop_append_of_le_length (by rw [List.length_take]; omega)]
      rw [e]
      congr 1
      by_cases q : z = c
      · subst q; simp [h]
      · simp [q]
set_option maxHeartbeats 4000000 in
set_option maxRecDepth 100000 in
theorem range_any (p q : List (List Change)) (vp vq : Value) (w : World) (hp : Rdv w Never vp p) (hq : Rdv w Never vq q) (m : Int) (hm : w.cell? ⟨1, 0, none⟩ = some (.int .i64 m)) :
    Calls Tryz.prog 36 #[vp, vq] w fun e w' => ∃ r, e = .returned (.tuple #[r, errV (rangeFault p q)]) ∧ Chg Never w w' ∧ Rdv w' Never r (rangeL p q) := by
  have hp0 := hp
  have hq0 := hq
  obtain ⟨a0, ca, rfl, a1, a2, -⟩ := rdv_slice hp
  obtain ⟨b0, cb, rfl, b1, b2, -⟩ := rdv_slice hq
  unfold maxLen at a2 b2
  by_cases h4 : 4 < p.length ∨ 4 < q.length
  · have HF : Hid (rangeFault p q = 3) := if_pos h4
    have HR : Hid (rangeL p q = []) := if_neg (by rw [HF.out]; decide)
    by_cases h4a : 4 < p.length
    · have t1 : decide ((4 : Int) < (p.length : Int)) = true := decide_eq_true (by omega)
      go_enter Tryz.func36, Tryz.ntmps36
      go_wp2_with fail
      go_ret2
      exact ⟨_, by rw [HF.out, errV_pos (by decide)]; rfl, Chg.refl _ _, by rw [HR.out]; exact rdv_nil _ _⟩
    · have t1 : decide ((4 : Int) < (p.length : Int)) = false := decide_eq_false (by omega)
      have t2 : decide ((4 : Int) < (q.length : Int)) = true := decide_eq_true (by omega)
      go_enter Tryz.func36, Tryz.ntmps36
      go_wp2_with fail
      go_ret2
      exact ⟨_, by rw [HF.out, errV_pos (by decide)]; rfl, Chg.refl _ _, by rw [HR.out]; exact rdv_nil _ _⟩
  · have t1 : decide ((4 : Int) < (p.length : Int)) = false := decide_eq_false (by omega)
    have t2 : decide ((4 : Int) < (q.length : Int)) = false := decide_eq_false (by omega)
    have HF : Hid (rangeFault p q = firstOf (fun c => (patchFault c).2) (p ++ q)) := if_neg h4
    have HTP : Hid (textsF p = firstOf (fun c => (patchFault c).2) p) := if_neg (by omega)
    have HTQ : Hid (textsF q = firstOf (fun c => (patchFault c).2) q) := if_neg (by omega)
    have hpl : p.length ≤ 4 := by omega
    have hql : q.length ≤ 4 := by omega
    go_enter Tryz.func36, Tryz.ntmps36
    go_wp2_with fail
    refine (rtexts_any p _ _ hp0 m hm).mono ?_
    rintro e w1 ⟨r1, rfl, hc1, hr1⟩
    by_cases hz1 : textsF p = 0
    · have HZ1 := Lib.hid hz1
      rw [show textsR p = p.map rtextOf from if_pos hz1] at hr1
      rw [hz1, errV_zero]
      clear hz1
      obtain ⟨ra, rca, rfl, -, -, -⟩ := rdv_slice hr1
      go_wp2_with fail
      refine (rtexts_any q _ _ (hq0.never hc1) m (hc1.cellNever hm)).mono ?_
      rintro e w2 ⟨r2, rfl, hc2, hr2⟩
      have hw2 := hc1.trans hc2
      by_cases hz2 : textsF q = 0
      · have HZ2 := Lib.hid hz2
        rw [show textsR q = q.map rtextOf from if_pos hz2] at hr2
        rw [hz2, errV_zero]
        clear hz2
        obtain ⟨rb, rcb, rfl, -, -, -⟩ := rdv_slice hr2
        have HFZ : Hid (rangeFault p q = 0) := by rw [Hid, HF.out, firstOf_app, ← HTP.out, HZ1.out, if_pos rfl, ← HTQ.out, HZ2.out]
        have hall : ∀ c, (c ∈ p ∨ c ∈ q) → (rtextOf c).length ≤ 99000 := fun c hc => by
          have h := HFZ.out
          rw [HF.out, firstOf_zero] at h
          unfold rtextOf
          rw [List.length_map]
          exact linesG_few (h c (List.mem_append.2 hc))
        have hlA : ∀ x ∈ p.map rtextOf, x.length ≤ 99000 := fun x hx => by
          obtain ⟨c, hc, rfl⟩ := List.mem_map.1 hx
          exact hall c (.inl hc)
        have hlB : ∀ x ∈ q.map rtextOf, x.length ≤ 99000 := fun x hx => by
          obtain ⟨c, hc, rfl⟩ := List.mem_map.1 hx
          exact hall c (.inr hc)
        have HRL : Hid (rangeL p q = rangeOut p.length q.length (rangeM p q)) := if_pos HFZ.out
        have HM : Hid (rangeM p q = matchR (costsOf (p.map rtextOf) (q.map rtextOf))) := rfl
        have eA : (p.map rtextOf).length = p.length := List.length_map ..
        have eB : (q.map rtextOf).length = q.length := List.length_map ..
        have hvA := (hr1.sub (O' := Never) (fun _ _ q => q.elim)).never hc2
        have hvB := hr2.sub (O' := Never) (fun _ _ q => q.elim)
        generalize p.map rtextOf = A at hlA HM eA hvA
        generalize q.map rtextOf = B at hlB HM eB hvB
        rw [eA] at hvA
        rw [eB] at hvB
        rw [eB]
        obtain ⟨n, hN⟩ : ∃ n, p.length + q.length = n := ⟨_, rfl⟩
        have HN := Lib.hid hN
        have hn8 : n ≤ 8 := by omega
        have hAB : A.length + B.length = n := by omega
        have eN : (p.length : Int) + (q.length : Int) = (n : Int) := by omega
        have sN : IntKind.i64.wrap (n : Int) = n := IntWalk.i64_in _ (by omega)
        obtain ⟨ib, ib1, ib2, ib3, ib4⟩ := info_parts (show (Tryz.prog.info? 23).map (fun i => (i.zero, i.size, i.bytes)) = some (some (.slice none 0 0), 1, 24) by kernel_rfl)
        clear hr1 hr2 hp hq hp0 hq0 hc1 hc2 hN
        go_wp2_with (at_make; refine wpList_make_full _ rfl _ _ 160 rfl 0 23 ib (.slice none 0 0) 1 Tryz.underlying160 ib1 ib2 ib3 .i64 .i64 _ _ n rfl rfl rfl rfl (by rw [ib4]; omega) (by unfold maxLen; omega) (Nat.zero_le _) ?_; intro w3 hown0 hgrow)
        have hT := valRow_made (z := .slice none 0 0) rfl hown0
        have hc3 := (Chg.refl Never w2).trans' (Chg.of_grown hgrow) (fun _ _ h => by cases h)
        have hBlt := hT.lt
        obtain ⟨BB, hBB⟩ : ∃ BB, w2.heap.size = BB := ⟨_, rfl⟩
        have hBBw : w2.heap.size ≤ BB := Nat.le_of_eq hBB
        rw [hBB] at hT hBlt ⊢
        have hC0 : CostRows A B BB w3 0 (fun _ => .slice none 0 0) := ⟨by rw [hAB]; exact hT, fun j hj => by omega, fun _ _ _ => rfl⟩
        clear hown0 hgrow ib1 ib2 ib3 ib4 hT hBB
        go_wp2_with fail
        go_loopw [52] (fun iv wr => ∃ (i : Nat) (g : Nat → Value), i ≤ n ∧ iv = .int .i64 i ∧ Chg Never w2 wr ∧ CostRows A B BB wr i g ∧ BB < wr.heap.size) (fun iv _ => n - (intOf iv).toNat)
        case atStart => exact ⟨0, _, Nat.zero_le _, rfl, hc3, hC0, hBlt⟩
        case round =>
          clear hC0 hc3 hBlt
          obtain ⟨i, g, hi, rfl, hc, hC, hBlt2⟩ := hrel
          rename World => wr
          by_cases hlt : i < n
          · have hrow := hC.row
            rw [hAB] at hrow
            have hV0 : ValRow 23 BB wr n (fun j => if j = i then .slice none 0 0 else g j) := hrow.congr (fun j hj => by
              by_cases q : j = i
              · subst q; rw [if_pos rfl, hC.rest j (Nat.le_refl _) (by omega)]
              · rw [if_neg q])
            clear hrow
            go_wp2_with fail
            go_loopw [56] (fun kv wi => ∃ (k : Nat) (vi : Value), k ≤ n ∧ kv = .int .i64 k ∧ Chg (fun x => x = BB ∨ wr.heap.size ≤ x) wr wi ∧ ValRow 23 BB wi n (fun j => if j = i then vi else g j) ∧ Own 3 wi (fun x => x < wr.heap.size) vi (((List.range n).take k).map (rangeCost A B i))) (fun kv _ => n - (intOf kv).toNat)
            case atStart => exact ⟨0, _, Nat.zero_le _, rfl, Chg.refl _ _, hV0, own_nil _ _ _⟩
            case round =>
              clear hV0
              obtain ⟨k, vi, hk, rfl, hci, hval, hown⟩ := hrel
              rename World => wi
              obtain ⟨va, vn, vc, rfl⟩ := own_isSlice hown
              have hw2i : Chg Never w2 wi := hc.trans' hci (fun x hx hh => by
                rcases hh with hh | hh
                · omega
                · have := hc.size; omega)
              by_cases hkt : k < n
              · have cB := hval.cell hlt
                rw [if_pos rfl] at cB
                have ib1 : (i : Int) < (n : Int) := by omega
                have hyi : I64 (rangeCost A B i k) := by have := cost_bd hlA hlB i k; unfold I64; omega
                have hrt : Hid (((List.range n).take (k + 1)).map (rangeCost A B i) = ((List.range n).take k).map (rangeCost A B i) ++ [rangeCost A B i k]) := by
                  have := row_take (a := A) (b := B) (i := i) (k := k) (by rw [hAB]; exact hkt)
                  rw [hAB] at this
                  exact this
                have hlen : (((List.range n).take k).map (rangeCost A B i)).length ≤ 1000000000 := by rw [List.length_map, List.length_take, List.length_range]; omega
                go_wp2_with fail
                refine wp_region_held_drew (S := fun w' => Chg (fun x => x = BB ∨ wr.heap.size ≤ x) wr w') (by kernel_rfl) hci.drew (fun hH => ?_)
                refine' tk 0 ?_
                refine' tk 1 ?_
                refine' tk 2 ?_
                refine' tk 3 ?_
                refine' tk 4 ?_
                refine' tk 6 ?_
                refine' tk 7 ?_
                refine' tk 8 ?_
                refine' tk 9 ?_
                refine wpAnyH_ready (rs := [5, 10]) (by kernel_rfl) (by simp) ?_
                refine AllReadyH.cons rfl (fun K hK => ?_) (AllReadyH.cons rfl (fun K hK => ?_) AllReadyH.nil)
                · go_simp
                  refine hK.out _ _ (by assumption) (fun hH => ?_)
                  clear hK K
                  try simp only [Act.put, List.setIfInBounds_toArray, List.set_cons_zero, List.set_cons_succ]
                  refine wpAnyH_ready (rs := [10]) (by kernel_rfl) (by simp) ?_
                  refine AllReadyH.cons rfl (fun K hK => ?_) AllReadyH.nil
                  go_simp
                  go_at_call 85
                  refine (cost_is A B i k _ _ _ (hvA.never hw2i.drew) (hvB.never hw2i.drew) hlA hlB (by omega) (by omega)).mono ?_
                  rintro e wq ⟨rfl, hcq⟩
                  try go_wp2_with fail
                  have hcq0 : Chg Never wi wq := (Chg.refl Never wi).drew.trans hcq
                  have hSq : Chg (fun x => x = BB ∨ wr.heap.size ≤ x) wr wq := hci.trans (hcq0.mono (fun _ _ h => h.elim))
                  refine hK.out _ _ hSq (fun hH => ?_)
                  clear hK K hcq
                  try simp only [Act.put, List.setIfInBounds_toArray, List.set_cons_zero, List.set_cons_succ]
                  have cBq := hcq0.cellNever cB
                  have cBa := ((Chg.refl Never wq).alloc (.cells #[.int .i64 (rangeCost A B i k)] 3)).cellNever cBq
                  have hownq := hown.never hcq0
                  have hValq := hval.keep hcq0 (fun h => h)
                  have hOq : ∀ x, x < wr.heap.size → x < wq.heap.size := fun x hx => Nat.lt_of_lt_of_le hx hSq.size
                  refine wpAnyH_ready (rs := [11]) (by kernel_rfl) (by simp) ?_
                  refine AllReadyH.cons rfl (fun K hK => ?_) AllReadyH.nil
                  go_simp
                  refine hK.out _ _ (hSq.alloc _) (fun hH => ?_)
                  clear hK K
                  try simp only [Act.put, List.setIfInBounds_toArray, List.set_cons_zero, List.set_cons_succ]
                  refine wpAnyH_ready (rs := [12]) (by kernel_rfl) (by simp) ?_
                  refine AllReadyH.cons rfl (fun K hK => ?_) AllReadyH.nil
                  refine step_push (by rfl) _ _ 23 (by rfl) elemOk_ints (O := fun x => x < wr.heap.size) (l := ((List.range n).take k).map (rangeCost A B i)) (y := rangeCost A B i k) (by rfl) (by rfl) (by simp) hownq ⟨rfl, hyi⟩ hOq hlen ?_
                  intro v' w5 hown5 hc5 hk5
                  obtain ⟨ad, nn, cc, rfl⟩ := own_slice hk5
                  have hS5 : Chg (fun x => x = BB ∨ wr.heap.size ≤ x) wr w5 := hSq.trans (hc5.mono (fun x _ hx => .inr (by have := own_out hownq x hx; omega)))
                  have hnB : ¬ OwnB (.slice va vn vc) BB := fun hx => own_out hownq BB hx hBlt2
                  refine hK.out _ _ hS5 (fun _ => ?_)
                  clear hK K
                  try simp only [Act.put, List.setIfInBounds_toArray, List.set_cons_zero, List.set_cons_succ]
                  have cB5 := hc5.cell cBq hnB
                  have hVal5 := hValq.keep hc5 hnB
                  have fB5 := hVal5.free i
                  clear cB cBq cBa hcq0 hownq hValq hSq hval hown
                  refine' tk 13 ?_
                  refine wpAnyH_ready (rs := [14]) (by kernel_rfl) (by simp) ?_
                  refine AllReadyH.cons rfl (fun K hK => ?_) AllReadyH.nil
                  go_simp
                  refine hK.out _ _ (hS5.setCell (.inr (.inl rfl)) _) (fun _ => ?_)
                  clear hK K
                  try simp only [Act.put, List.setIfInBounds_toArray, List.set_cons_zero, List.set_cons_succ]
                  refine wpAnyH_done (by kernel_rfl) ?_ _
                  have hS6 := hS5.setCell (p := ⟨BB, i, none⟩) (.inr (.inl rfl)) (.slice (some ad) nn cc)
                  have hVal6 : ValRow 23 BB (w5.setCell ⟨BB, i, none⟩ (.slice (some ad) nn cc)) n (fun j => if j = i then .slice (some ad) nn cc else g j) := (hVal5.set hlt _).congr (fun j _ => by by_cases q : j = i <;> simp [q])
                  have hown6 := hown5.keep (O' := fun x => x = BB) (O'' := fun x => x < wr.heap.size) ((Chg.refl (fun x => x = BB) w5).setCell (p := ⟨BB, i, none⟩) (.inr rfl) (.slice (some ad) nn cc)) (fun x _ hx => by have h : x = BB := hx; omega) (fun _ _ h => h)
                  clear cB5 fB5 hVal5 hS5 hown5 hc5 hk5
                  go_wp2_with fail
                  go_roundw
                  case rel => exact ⟨k + 1, .slice (some ad) nn cc, by omega, by go_num, hS6, hVal6, by rw [hrt.out]; exact hown6⟩
                  case measure => simp [intOf] <;> omega
                · go_simp
                  go_at_call 85
                  refine (cost_is A B i k _ _ _ (hvA.never hw2i.drew) (hvB.never hw2i.drew) hlA hlB (by omega) (by omega)).mono ?_
                  rintro e wq ⟨rfl, hcq⟩
                  try go_wp2_with fail
                  have hcq0 : Chg Never wi wq := (Chg.refl Never wi).drew.trans hcq
                  have hSq : Chg (fun x => x = BB ∨ wr.heap.size ≤ x) wr wq := hci.trans (hcq0.mono (fun _ _ h => h.elim))
                  refine hK.out _ _ hSq (fun hH => ?_)
                  clear hK K hcq
                  try simp only [Act.put, List.setIfInBounds_toArray, List.set_cons_zero, List.set_cons_succ]
                  have cBq := hcq0.cellNever cB
                  have cBa := ((Chg.refl Never wq).alloc (.cells #[.int .i64 (rangeCost A B i k)] 3)).cellNever cBq
                  have hownq := hown.never hcq0
                  have hValq := hval.keep hcq0 (fun h => h)
                  have hOq : ∀ x, x < wr.heap.size → x < wq.heap.size := fun x hx => Nat.lt_of_lt_of_le hx hSq.size
                  refine wpAnyH_ready (rs := [5, 11]) (by kernel_rfl) (by simp) ?_
                  refine AllReadyH.cons rfl (fun K hK => ?_) (AllReadyH.cons rfl (fun K hK => ?_) AllReadyH.nil)
                  · go_simp
                    refine hK.out _ _ (by assumption) (fun hH => ?_)
                    clear hK K
                    try simp only [Act.put, List.setIfInBounds_toArray, List.set_cons_zero, List.set_cons_succ]
                    refine wpAnyH_ready (rs := [11]) (by kernel_rfl) (by simp) ?_
                    refine AllReadyH.cons rfl (fun K hK => ?_) AllReadyH.nil
                    go_simp
                    refine hK.out _ _ (hSq.alloc _) (fun hH => ?_)
                    clear hK K
                    try simp only [Act.put, List.setIfInBounds_toArray, List.set_cons_zero, List.set_cons_succ]
                    refine wpAnyH_ready (rs := [12]) (by kernel_rfl) (by simp) ?_
                    refine AllReadyH.cons rfl (fun K hK => ?_) AllReadyH.nil
                    refine step_push (by rfl) _ _ 23 (by rfl) elemOk_ints (O := fun x => x < wr.heap.size) (l := ((List.range n).take k).map (rangeCost A B i)) (y := rangeCost A B i k) (by rfl) (by rfl) (by simp) hownq ⟨rfl, hyi⟩ hOq hlen ?_
                    intro v' w5 hown5 hc5 hk5
                    obtain ⟨ad, nn, cc, rfl⟩ := own_slice hk5
                    have hS5 : Chg (fun x => x = BB ∨ wr.heap.size ≤ x) wr w5 := hSq.trans (hc5.mono (fun x _ hx => .inr (by have := own_out hownq x hx; omega)))
                    have hnB : ¬ OwnB (.slice va vn vc) BB := fun hx => own_out hownq BB hx hBlt2
                    refine hK.out _ _ hS5 (fun _ => ?_)
                    clear hK K
                    try simp only [Act.put, List.setIfInBounds_toArray, List.set_cons_zero, List.set_cons_succ]
                    have cB5 := hc5.cell cBq hnB
                    have hVal5 := hValq.keep hc5 hnB
                    have fB5 := hVal5.free i
                    clear cB cBq cBa hcq0 hownq hValq hSq hval hown
                    refine' tk 13 ?_
                    refine wpAnyH_ready (rs := [14]) (by kernel_rfl) (by simp) ?_
                    refine AllReadyH.cons rfl (fun K hK => ?_) AllReadyH.nil
                    go_simp
                    refine hK.out _ _ (hS5.setCell (.inr (.inl rfl)) _) (fun _ => ?_)
                    clear hK K
                    try simp only [Act.put, List.setIfInBounds_toArray, List.set_cons_zero, List.set_cons_succ]
                    refine wpAnyH_done (by kernel_rfl) ?_ _
                    have hS6 := hS5.setCell (p := ⟨BB, i, none⟩) (.inr (.inl rfl)) (.slice (some ad) nn cc)
                    have hVal6 : ValRow 23 BB (w5.setCell ⟨BB, i, none⟩ (.slice (some ad) nn cc)) n (fun j => if j = i then .slice (some ad) nn cc else g j) := (hVal5.set hlt _).congr (fun j _ => by by_cases q : j = i <;> simp [q])
                    have hown6 := hown5.keep (O' := fun x => x = BB) (O'' := fun x => x < wr.heap.size) ((Chg.refl (fun x => x = BB) w5).setCell (p := ⟨BB, i, none⟩) (.inr rfl) (.slice (some ad) nn cc)) (fun x _ hx => by have h : x = BB := hx; omega) (fun _ _ h => h)
                    clear cB5 fB5 hVal5 hS5 hown5 hc5 hk5
                    go_wp2_with fail
                    go_roundw
                    case rel => exact ⟨k + 1, .slice (some ad) nn cc, by omega, by go_num, hS6, hVal6, by rw [hrt.out]; exact hown6⟩
                    case measure => simp [intOf] <;> omega
                  · go_simp
                    refine hK.out _ _ (hSq.alloc _) (fun hH => ?_)
                    clear hK K
                    try simp only [Act.put, List.setIfInBounds_toArray, List.set_cons_zero, List.set_cons_succ]
                    refine wpAnyH_ready (rs := [5]) (by kernel_rfl) (by simp) ?_
                    refine AllReadyH.cons rfl (fun K hK => ?_) AllReadyH.nil
                    go_simp
                    refine hK.out _ _ (by assumption) (fun hH => ?_)
                    clear hK K
                    try simp only [Act.put, List.setIfInBounds_toArray, List.set_cons_zero, List.set_cons_succ]
                    refine wpAnyH_ready (rs := [12]) (by kernel_rfl) (by simp) ?_
                    refine AllReadyH.cons rfl (fun K hK => ?_) AllReadyH.nil
                    refine step_push (by rfl) _ _ 23 (by rfl) elemOk_ints (O := fun x => x < wr.heap.size) (l := ((List.range n).take k).map (rangeCost A B i)) (y := rangeCost A B i k) (by rfl) (by rfl) (by simp) hownq ⟨rfl, hyi⟩ hOq hlen ?_
                    intro v' w5 hown5 hc5 hk5
                    obtain ⟨ad, nn, cc, rfl⟩ := own_slice hk5
                    have hS5 : Chg (fun x => x = BB ∨ wr.heap.size ≤ x) wr w5 := hSq.trans (hc5.mono (fun x _ hx => .inr (by have := own_out hownq x hx; omega)))
                    have hnB : ¬ OwnB (.slice va vn vc) BB := fun hx => own_out hownq BB hx hBlt2
                    refine hK.out _ _ hS5 (fun _ => ?_)
                    clear hK K
                    try simp only [Act.put, List.setIfInBounds_toArray, List.set_cons_zero, List.set_cons_succ]
                    have cB5 := hc5.cell cBq hnB
                    have hVal5 := hValq.keep hc5 hnB
                    have fB5 := hVal5.free i
                    clear cB cBq cBa hcq0 hownq hValq hSq hval hown
                    refine' tk 13 ?_
                    refine wpAnyH_ready (rs := [14]) (by kernel_rfl) (by simp) ?_
                    refine AllReadyH.cons rfl (fun K hK => ?_) AllReadyH.nil
                    go_simp
                    refine hK.out _ _ (hS5.setCell (.inr (.inl rfl)) _) (fun _ => ?_)
                    clear hK K
                    try simp only [Act.put, List.setIfInBounds_toArray, List.set_cons_zero, List.set_cons_succ]
                    refine wpAnyH_done (by kernel_rfl) ?_ _
                    have hS6 := hS5.setCell (p := ⟨BB, i, none⟩) (.inr (.inl rfl)) (.slice (some ad) nn cc)
                    have hVal6 : ValRow 23 BB (w5.setCell ⟨BB, i, none⟩ (.slice (some ad) nn cc)) n (fun j => if j = i then .slice (some ad) nn cc else g j) := (hVal5.set hlt _).congr (fun j _ => by by_cases q : j = i <;> simp [q])
                    have hown6 := hown5.keep (O' := fun x => x = BB) (O'' := fun x => x < wr.heap.size) ((Chg.refl (fun x => x = BB) w5).setCell (p := ⟨BB, i, none⟩) (.inr rfl) (.slice (some ad) nn cc)) (fun x _ hx => by have h : x = BB := hx; omega) (fun _ _ h => h)
                    clear cB5 fB5 hVal5 hS5 hown5 hc5 hk5
                    go_wp2_with fail
                    go_roundw
                    case rel => exact ⟨k + 1, .slice (some ad) nn cc, by omega, by go_num, hS6, hVal6, by rw [hrt.out]; exact hown6⟩
                    case measure => simp [intOf] <;> omega
              · obtain rfl : k = n := by omega
                have hrowi : ((List.range k).take k).map (rangeCost A B i) = rowOf A B i := by
                  unfold rowOf
                  rw [hAB, List.take_of_length_le (by simp)]
                rw [hrowi] at hown
                have hC2 : CostRows A B BB wi (i + 1) (fun j => if j = i then .slice va vn vc else g j) := ⟨by rw [hAB]; exact hval, fun j hj => by
                  by_cases q : j = i
                  · subst q
                    rw [if_pos rfl]
                    exact hown.rdv.sub (fun x _ hx => by have h : x = BB := hx; omega)
                  · rw [if_neg q]
                    exact (hC.done j (by omega)).keep hci (fun x hx hh => by
                      rcases hh with hh | hh
                      · exact hh
                      · omega) (fun _ _ h => h), fun j hj hj2 => by rw [if_neg (by omega)]; exact hC.rest j (by omega) hj2⟩
                have hB3 := Nat.lt_of_lt_of_le hBlt2 hci.size
                clear hval hown hC hci hrowi
                go_wp2_with fail
                go_roundw
                case rel => exact ⟨i + 1, _, by omega, by go_num, hw2i, hC2, hB3⟩
                case measure => simp [intOf] <;> omega
          · obtain rfl : i = n := by omega
            have hRows : Rdv wr Never (.slice (some ⟨BB, 0, none⟩) i i) (costsOf A B) := by
              have := rows_rdv (hAB.symm ▸ hC) (by omega)
              rw [hAB] at this
              exact this
            have hch := choose_any (costsOf A B) _ wr hRows (by rw [costs_len]; omega) (costs_bd hlA hlB)
            have hCho := choice_of hlA hlB
            rw [hAB] at hCho
            rw [← HM.out] at hch
            have HCho : Hid (Choice i (rangeM p q)) := by rw [HM.out]; exact hCho
            clear hCho HM hRows hC hBlt2
            generalize rangeM p q = M at hch HCho HRL
            have hch := Lib.hid hch
            have hML : M.length = i := HCho.out.len
            have hmm := @run_makeMap Tryz.prog
            go_wp2_with fail
            refine hch.out.mono ?_
            rintro e w5 ⟨r5, rfl, hc5, hr5⟩
            have hw5 := (hw2.trans hc).trans hc5
            obtain ⟨ma, mcp, rfl, m1, m2, m3⟩ := rdv_slice hr5
            unfold maxLen at m2
            clear hch hr5 hc5
            have hA6 : Chg Never w5 (w5.alloc (.map #[] 0)) := (Chg.refl Never w5).alloc _
            have hm0 := intMap_made w5
            rw [hML]
            go_wp2_with fail
            clear hmm
            obtain ⟨MB, hMB⟩ : ∃ MB, w5.heap.size = MB := ⟨_, rfl⟩
            have hMBw : w5.heap.size ≤ MB := Nat.le_of_eq hMB
            rw [hMB] at hm0 ⊢
            clear hMB
            go_loopw [14, 80] (fun ov jv wr => ∃ (j : Nat) (F : Int → Int), j ≤ i ∧ jv = .int .i64 j ∧ Chg Never w5 wr ∧ IntMap wr MB j F ∧ Own 78 wr (Old (MB + 1)) ov (((List.range p.length).take j).map (firstsOf q.length M)) ∧ Hid (∀ z, F z = isLeft q.length p.length M j z)) (fun _ jv _ => i - (intOf jv).toNat)
            case atStart => exact ⟨0, _, Nat.zero_le _, rfl, hA6, hm0, own_nil _ _ _, fun z => by unfold isLeft; rw [if_neg (by simp)]⟩
            case round =>
              clear hm0 hA6
              obtain ⟨j, F, hj, rfl, hc, hmap, hown, hF⟩ := hrel
              rename World => wr
              obtain ⟨va, vn, vc, rfl⟩ := own_isSlice hown
              by_cases hjl : j < i
              · obtain ⟨c, hx⟩ : ∃ c, M[j]? = some c := ⟨M[j]'(by omega), by simp⟩
                obtain ⟨kc, rfl, hkc⟩ := HCho.out.mem c (List.mem_of_getElem? hx)
                obtain ⟨b, off, rfl, -, cM, hyi⟩ := elems_ints m3 hx
                have cM := hc.cellNever cM
                have ib : (j : Int) < (i : Int) := by omega
                have hgd : M.getD j 0 = (kc : Int) := by rw [List.getD_eq_getElem?_getD, hx]; rfl
                by_cases hjp : j < p.length
                · have tj : decide ((j : Int) < (p.length : Int)) = true := decide_eq_true (by omega)
                  have tjn : decide (j < p.length) = true := decide_eq_true hjp
                  have hF2 : Hid (∀ z, F z = isLeft q.length p.length M (j + 1) z) := fun z => by rw [left_same hx (.inl hjp), hF.out]
                  have hft0 := firsts_take (a := p.length) (b := q.length) (m := M) hjp
                  by_cases hkq : kc < q.length
                  · have tck : decide ((kc : Int) < (q.length : Int)) = true := decide_eq_true (by omega)
                    have tkn : decide (kc < q.length) = true := decide_eq_true hkq
                    have hft : Hid (((List.range p.length).take (j + 1)).map (firstsOf q.length M) = ((List.range p.length).take j).map (firstsOf q.length M) ++ [((j : Int), (kc : Int))]) := by rw [Hid, hft0, firstsOf, hgd, if_pos (by omega)]
                    clear hft0 hx m3 hF hgd
                    have hlen : (((List.range p.length).take j).map (firstsOf q.length M)).length ≤ 1000000000 := by rw [List.length_map, List.length_take, List.length_range]; omega
                    have hOo : ∀ x, Old (MB + 1) x → x < wr.heap.size := fun x hx => by unfold Old at hx; have := hmap.lt; omega
                    go_wp2_with (at_builtin; refine wpList_push (by rfl) _ _ 75 (by rfl) elemOk_pair (O := Old (MB + 1)) (l := ((List.range p.length).take j).map (firstsOf q.length M)) (y := ((j : Int), (kc : Int))) (by rfl) (by rfl) (by simp) hown rfl hOo hlen ?_; intro v' w7 hown7 hc7 _)
                    have hmap7 := hmap.keep hc7 (fun hh => own_out hown MB hh (Nat.lt_succ_self _))
                    have hw7 : Chg Never w5 w7 := hc.trans' hc7 (fun x hx hh => by have := own_out hown x hh; unfold Old at this; omega)
                    clear hc7 hown hmap hOo
                    go_wp2_with fail
                    go_roundw
                    case rel => exact ⟨j + 1, F, by omega, by go_num, hw7, hmap7.mono (by omega), by rw [hft.out]; exact hown7, hF2⟩
                    case measure => simp [intOf] <;> omega
                  · have tck : decide ((kc : Int) < (q.length : Int)) = false := decide_eq_false (by omega)
                    have tkn : decide (kc < q.length) = false := decide_eq_false hkq
                    have hft : Hid (((List.range p.length).take (j + 1)).map (firstsOf q.length M) = ((List.range p.length).take j).map (firstsOf q.length M) ++ [((j : Int), (-1 : Int))]) := by rw [Hid, hft0, firstsOf, hgd, if_neg (by omega)]
                    clear hft0 hx m3 hF hgd
                    have hlen : (((List.range p.length).take j).map (firstsOf q.length M)).length ≤ 1000000000 := by rw [List.length_map, List.length_take, List.length_range]; omega
                    have hOo : ∀ x, Old (MB + 1) x → x < wr.heap.size := fun x hx => by unfold Old at hx; have := hmap.lt; omega
                    go_wp2_with (at_builtin; refine wpList_push (by rfl) _ _ 75 (by rfl) elemOk_pair (O := Old (MB + 1)) (l := ((List.range p.length).take j).map (firstsOf q.length M)) (y := ((j : Int), (-1 : Int))) (by rfl) (by rfl) (by simp) hown rfl hOo hlen ?_; intro v' w7 hown7 hc7 _)
                    have hmap7 := hmap.keep hc7 (fun hh => own_out hown MB hh (Nat.lt_succ_self _))
                    have hw7 : Chg Never w5 w7 := hc.trans' hc7 (fun x hx hh => by have := own_out hown x hh; unfold Old at this; omega)
                    clear hc7 hown hmap hOo
                    go_wp2_with fail
                    go_roundw
                    case rel => exact ⟨j + 1, F, by omega, by go_num, hw7, hmap7.mono (by omega), by rw [hft.out]; exact hown7, hF2⟩
                    case measure => simp [intOf] <;> omega
                · have tj : decide ((j : Int) < (p.length : Int)) = false := decide_eq_false (by omega)
                  have tjn : decide (j < p.length) = false := decide_eq_false hjp
                  have hft := Lib.hid (firsts_stop (a := p.length) (b := q.length) (m := M) (j := j) (by omega))
                  by_cases hkq : kc < q.length
                  · have tck : decide ((kc : Int) < (q.length : Int)) = true := decide_eq_true (by omega)
                    have tkn : decide (kc < q.length) = true := decide_eq_true hkq
                    have hF2 := Lib.hid (left_step hx (show p.length ≤ j by omega) (by omega) (by omega) F hF.out)
                    obtain ⟨w7, hrun, hmap7, hc7⟩ := hmap.put (j := (kc : Int)) (c := 1) (by unfold maxLen; omega) hyi (by unfold I64; omega)
                    have hown7 := hown.keep (O'' := Old (MB + 1)) hc7 (fun x _ hx => by have h : x = MB := hx; unfold Old; omega) (fun _ _ h => h)
                    have hw7 : Chg Never w5 w7 := hc.trans' hc7 (fun x hx hh => by have h : x = MB := hh; omega)
                    clear hx m3 hF hgd hc7 hown hmap
                    go_wp2_with fail
                    go_roundw
                    case rel => exact ⟨j + 1, _, by omega, by go_num, hw7, hmap7, by rw [hft.out]; exact hown7, hF2⟩
                    case measure => simp [intOf] <;> omega
                  · have tck : decide ((kc : Int) < (q.length : Int)) = false := decide_eq_false (by omega)
                    have tkn : decide (kc < q.length) = false := decide_eq_false hkq
                    have hF2 : Hid (∀ z, F z = isLeft q.length p.length M (j + 1) z) := fun z => by rw [left_same hx (.inr (by omega)), hF.out]
                    clear hx m3 hF hgd
                    go_wp2_with fail
                    go_roundw
                    case rel => exact ⟨j + 1, F, by omega, by go_num, hc, hmap.mono (by omega), by rw [hft.out]; exact hown, hF2⟩
                    case measure => simp [intOf] <;> omega
              · obtain rfl : j = i := by omega
                have hft : ((List.range p.length).take j).map (firstsOf q.length M) = (List.range p.length).map (firstsOf q.length M) := by rw [List.take_of_length_le (by rw [List.length_range]; omega)]
                rw [hft] at hown
                have hF1 : Hid (∀ z : Nat, z < q.length → F z = if ((z : Int) ∈ M.drop p.length) then 1 else 0) := fun z hz => by
                  rw [hF.out]
                  unfold isLeft
                  rw [List.take_of_length_le (by omega)]
                  by_cases hm : (z : Int) ∈ M.drop p.length
                  · rw [if_pos ⟨hm, by omega, by omega⟩, if_pos hm]
                  · rw [if_neg (fun h => hm h.1), if_neg hm]
                clear hF hft m3
                rename World => wr
                go_wp2_with fail
                go_loopw [14, 122] (fun ov kv wz => ∃ k : Nat, k ≤ q.length ∧ kv = .int .i64 k ∧ Chg Never w5 wz ∧ IntMap wz MB j F ∧ Own 78 wz (Old (MB + 1)) ov ((List.range p.length).map (firstsOf q.length M) ++ (((List.range q.length).take k).filter fun (c : Nat) => decide ((c : Int) ∈ M.drop p.length)).map fun (c : Nat) => ((-1 : Int), (c : Int)))) (fun _ kv _ => q.length - (intOf kv).toNat)
                case atStart => exact ⟨0, Nat.zero_le _, rfl, hc, hmap, by simpa using hown⟩
                case round =>
                  clear hown hmap hc
                  obtain ⟨k, hk, rfl, hc, hmap, hown⟩ := hrel
                  rename World => wz
                  obtain ⟨va, vn, vc, rfl⟩ := own_isSlice hown
                  by_cases hkq : k < q.length
                  · have hlook := hmap.look (j := (k : Int)) (by unfold I64; omega)
                    have hth := thens_take (b := q.length) (k := k) (fun (c : Nat) => decide ((c : Int) ∈ M.drop p.length)) hkq
                    have hFk := hF1.out k hkq
                    by_cases hmem : (k : Int) ∈ M.drop p.length
                    · rw [if_pos hmem] at hFk
                      rw [hFk] at hlook
                      rw [if_pos (by simpa using hmem)] at hth
                      have hlen : ((List.range p.length).map (firstsOf q.length M) ++ (((List.range q.length).take k).filter fun (c : Nat) => decide ((c : Int) ∈ M.drop p.length)).map fun (c : Nat) => ((-1 : Int), (c : Int))).length ≤ 1000000000 := by
                        rw [List.length_append, List.length_map, List.length_map, List.length_range]
                        have := List.length_filter_le (fun (c : Nat) => decide ((c : Int) ∈ M.drop p.length)) ((List.range q.length).take k)
                        rw [List.length_take] at this
                        omega
                      obtain ⟨LL, hLL⟩ : ∃ LL, ((List.range p.length).map (firstsOf q.length M) ++ (((List.range q.length).take k).filter fun (c : Nat) => decide ((c : Int) ∈ M.drop p.length)).map fun (c : Nat) => ((-1 : Int), (c : Int))) = LL := ⟨_, rfl⟩
                      rw [hLL] at hlen hown
                      have HTL : Hid ((List.range p.length).map (firstsOf q.length M) ++ (((List.range q.length).take (k + 1)).filter fun (c : Nat) => decide ((c : Int) ∈ M.drop p.length)).map (fun (c : Nat) => ((-1 : Int), (c : Int))) = LL ++ [((-1 : Int), (k : Int))]) := by rw [Hid, ← hLL, hth, List.append_assoc]
                      have hOo : ∀ x, Old (MB + 1) x → x < wz.heap.size := fun x hx => by unfold Old at hx; have := hmap.lt; omega
                      clear hLL hth hmem hFk
                      go_wp2_with (at_builtin; refine wpList_push (by rfl) _ _ 75 (by rfl) elemOk_pair (O := Old (MB + 1)) (l := LL) (y := ((-1 : Int), (k : Int))) (by rfl) (by rfl) (by simp) hown rfl hOo hlen ?_; intro v' w7 hown7 hc7 _)
                      have hmap7 := hmap.keep hc7 (fun hh => own_out hown MB hh (Nat.lt_succ_self _))
                      have hw7 : Chg Never w5 w7 := hc.trans' hc7 (fun x hx hh => by have := own_out hown x hh; unfold Old at this; omega)
                      clear hc7 hown hmap hOo hlook
                      go_wp2_with fail
                      go_roundw
                      case rel => exact ⟨k + 1, by omega, by go_num, hw7, hmap7, by rw [HTL.out]; exact hown7⟩
                      case measure => simp [intOf] <;> omega
                    · rw [if_neg hmem] at hFk
                      rw [hFk] at hlook
                      rw [if_neg (by simpa using hmem), List.append_nil] at hth
                      have HTH := Lib.hid hth
                      clear hth hmem hFk
                      go_wp2_with fail
                      go_roundw
                      case rel => exact ⟨k + 1, by omega, by go_num, hc, hmap, by rw [HTH.out]; exact hown⟩
                      case measure => simp [intOf] <;> omega
                  · rw [List.take_of_length_le (by rw [List.length_range]; omega)] at hown
                    have hr : Rdv wz Never (.slice va vn vc) (rangeOut p.length q.length M) := hown.rdv.sub (fun _ _ h => h.elim)
                    have hcf := hw5.trans hc
                    clear hown hmap
                    go_wp2_with fail
                    go_ret2
                    exact ⟨_, by rw [HFZ.out, errV_zero]; rfl, hcf, by rw [HRL.out]; exact hr⟩
      · have HF2 : Hid (rangeFault p q = textsF q) := by rw [Hid, HF.out, firstOf_app, ← HTP.out, HZ1.out, if_pos rfl, ← HTQ.out]
        have HR : Hid (rangeL p q = []) := if_neg (by rw [HF2.out]; exact hz2)
        have HZ2 := Lib.hid hz2
        rw [errV_pos hz2]
        clear hz2 hr1 hr2
        go_wp2_with fail
        go_ret2
        exact ⟨_, by rw [HF2.out, errV_pos HZ2.out]; rfl, hw2, by rw [HR.out]; exact rdv_nil _ _⟩
    · have HF2 : Hid (rangeFault p q = textsF p) := by rw [Hid, HF.out, firstOf_app, ← HTP.out, if_neg hz1]
      have HR : Hid (rangeL p q = []) := if_neg (by rw [HF2.out]; exact hz1)
      have HZ1 := Lib.hid hz1
      rw [errV_pos hz1]
      clear hz1 hr1
      go_wp2_with fail
      go_ret2
      exact ⟨_, by rw [HF2.out, errV_pos HZ1.out]; rfl, hc1, by rw [HR.out]; exact rdv_nil _ _⟩
end Go.Proofs.YtjiaidchcldocaaGreatDoor
namespace Go.Proofs.YtjiaidchcldocaaGreatDoor
open Go.RowKit

theorem tmod_nat {c : Int} {n : Nat} (hc : 0 ≤ c) (h0 : 0 < n) : ∃ k : Nat, k < n ∧ Int.tmod c (n : Int) = (k : Int) := by
  obtain ⟨d, rfl⟩ : ∃ d : Nat, c = d := ⟨c.toNat, by omega⟩
  exact ⟨d % n, Nat.mod_lt _ h0, by rw [Int.tmod_eq_emod_of_nonneg (by omega)]; omega⟩
set_option maxHeartbeats 1000000 in
theorem pick_any (c : Int) (n : Nat) (w : World) (hc : I64 c) (h0 : 0 < n) (hn : n ≤ 1000000000) :
    Calls Tryz.prog 16 #[.int .i64 c, .int .i64 n] w fun e w' => ∃ k : Nat, k < n ∧ e = .returned (.int .i64 k) ∧ w' = w := by
  unfold I64 at hc
  have n0 : ((n : Int) == 0) = false := by simp; omega
  have n1 : ((n : Int) != 0) = true := by simp; omega
  by_cases h : c < 0
  · have t1 : decide (c < 0) = true := decide_eq_true h
    have s1 : IntKind.i64.wrap (c + 1) = c + 1 := IntWalk.i64_in _ (by omega)
    have s2 : IntKind.i64.wrap (-(c + 1)) = -(c + 1) := IntWalk.i64_in _ (by omega)
    obtain ⟨k, hk, e⟩ := tmod_nat (c := -(c + 1)) (by omega) h0
    have s3 : IntKind.i64.wrap (k : Int) = k := IntWalk.i64_in _ (by omega)
    have HE := Lib.hid e
    go_enter Tryz.func16, Tryz.ntmps16
    go_wp2_with fail
    go_ret
    exact ⟨k, hk, rfl, rfl⟩
  · have t1 : decide (c < 0) = false := decide_eq_false h
    obtain ⟨k, hk, e⟩ := tmod_nat (c := c) (by omega) h0
    have s3 : IntKind.i64.wrap (k : Int) = k := IntWalk.i64_in _ (by omega)
    go_enter Tryz.func16, Tryz.ntmps16
    go_wp2_with fail
    go_ret
    exact ⟨k, hk, rfl, rfl⟩
end Go.Proofs.YtjiaidchcldocaaGreatDoor
namespace Go.Proofs.YtjiaidchcldocaaGreatDoor
open Go.RowKit

theorem pair_size (w : World) : (sizeOf 3).run Tryz.prog w = .ok 1 w := by kernel_rfl
theorem pair_part0 (w : World) (a b : Int) : (part 3 #[.int .i64 a, .int .i64 b] 0).run Tryz.prog w = .ok (.int .i64 a) w := by simp [part, go_sem]
theorem pair_part1 (w : World) (a b : Int) : (part 3 #[.int .i64 a, .int .i64 b] 1).run Tryz.prog w = .ok (.int .i64 b) w := by simp [part, go_sem]
theorem pair_eqD {P : Program} {t e : TypeId} (hu : P.underlying t = some (.array 2 e)) (he : P.underlying e = some (.int .i64)) (hs : ∀ w, (sizeOf e).run P w = .ok 1 w)
    (h0 : ∀ w a b, (part e #[.int .i64 a, .int .i64 b] 0).run P w = .ok (.int .i64 a) w) (h1 : ∀ w a b, (part e #[.int .i64 a, .int .i64 b] 1).run P w = .ok (.int .i64 b) w) (k : Nat) (w : World) (a b c d : Int) :
    (Op.equalIn (k + 2) t (.agg #[.int .i64 a, .int .i64 b]) (.agg #[.int .i64 c, .int .i64 d])).run P w = .ok (a == c && b == d) w := by
  have hI : ∀ w (x y : Int), (Op.equalIn (k + 1) e (.int .i64 x) (.int .i64 y)).run P w = .ok (x == y) w := fun w x y => run_equalIn_int w k e .i64 .i64 x y he
  rw [show k + 2 = (k + 1) + 1 from rfl]
  generalize k + 1 = m at hI
  rw [Op.equalIn]
  simp only [Sem.run_bind, run_underlying hu, Result.andThen_ok, hs]
  have hr : List.range' 0 2 1 = [0, 1] := rfl
  by_cases e1 : a = c <;> by_cases e2 : b = d <;>
    simp [Std.Legacy.Range.forIn_eq_forIn_range', Std.Legacy.Range.size, hr, h0, h1, hI, e1, e2, Sem.run_bind, Sem.run_pure, Result.andThen_ok, List.forIn_cons, List.forIn_nil]
theorem pair_eq (w : World) (a b c d : Int) :
    (Op.equalIn 10000 78 (.agg #[.int .i64 a, .int .i64 b]) (.agg #[.int .i64 c, .int .i64 d])).run Tryz.prog w = .ok (a == c && b == d) w :=
  pair_eqD Tryz.underlying78 Tryz.underlying3 pair_size pair_part0 pair_part1 9998 w a b c d
theorem elems_pair {w : World} {O : Nat → Prop} {a : Option Addr} {l : List (Int × Int)} (h : Elems w O a l) {i : Nat} {x : Int × Int} (hx : l[i]? = some x) :
    ∃ b off, a = some ⟨b, off, none⟩ ∧ ¬ O b ∧ w.cell? ⟨b, off + i * 2, none⟩ = some (.int .i64 x.1) ∧ w.cell? ⟨b, off + i * 2 + 1, none⟩ = some (.int .i64 x.2) := by
  obtain ⟨b, off, es, ha, hb, hcs, rfl⟩ := h i x hx
  refine ⟨b, off, ha, hb, ?_, ?_⟩
  · simpa [Dat.n] using hcs 0 _ rfl
  · simpa [Dat.n] using hcs 1 _ rfl
end Go.Proofs.YtjiaidchcldocaaGreatDoor
