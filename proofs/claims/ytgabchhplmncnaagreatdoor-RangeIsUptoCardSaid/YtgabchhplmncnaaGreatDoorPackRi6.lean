/-
  PARTS: THE WALK of match.Range.; THE WALKS of the document's Dec and span (handstitchref2).; ROWS OF BYTES: an element's cell; as a string, and a string as bytes.; THE WALK of the document's HunksText (handstitchref2).
-/
import Derived.Test.YtgabchhplmncnaaGreatDoorPackRi5
import Derived.Test.YtgabchhplmncnaaGreatDoorPackRi3
import Derived.Test.YtgabchhplmncnaaGreatDoorPackRi1
import Derived.Laws.IdiomStrings
import Derived.Laws.BytesArg
import Derived.Deep.RegionHeld3
namespace Go.Proofs.YtgabchhplmncnaaGreatDoor
open Go.RowKit

theorem elemOk_pair : ElemOk Tryz.prog 23 32 2 := elemOk_of Tryz.underlying23 (z := .agg #[.int .i64 0, .int .i64 0]) (b := 16) (by kernel_rfl) rfl (by decide)
/-- the costs' rows, of which row i is being built -/
structure CostRows (A B : List (List ByteArray)) (BB : Nat) (wr : World) (i : Nat) (g : Nat → Value) : Prop where
  row : ValRow 34 BB wr (A.length + B.length) g
  done : ∀ j, j < i → Rdv wr (fun x => x = BB) (g j) (rowOf A B j)
  rest : ∀ j, i ≤ j → j < A.length + B.length → g j = .slice none 0 0
theorem rows_rdv {A B : List (List ByteArray)} {BB : Nat} {wr : World} {g : Nat → Value} (h : CostRows A B BB wr (A.length + B.length) g) (hl : A.length + B.length ≤ 8) : Rdv wr Never (.slice (some ⟨BB, 0, none⟩) (A.length + B.length) (A.length + B.length)) (costsOf A B) := by
  refine ⟨some ⟨BB, 0, none⟩, A.length + B.length, by rw [costs_len], by rw [costs_len]; exact Nat.le_refl _, by unfold maxLen; omega, ?_⟩
  intro j x hx
  have hj := (List.getElem?_eq_some_iff.1 hx).1
  rw [costs_len] at hj
  unfold costsOf at hx
  rw [List.getElem?_map, List.getElem?_range hj] at hx
  simp only [Option.map_some, Option.some.injEq] at hx
  subst hx
  refine ⟨BB, 0, [g j], rfl, fun q => q, ?_, (h.done j hj).sub (fun _ _ q => q.elim)⟩
  intro q u hq
  match q, hq with
  | 0, hq =>
    simp only [List.getElem?_cons_zero, Option.some.injEq] at hq
    subst hq
    have := h.row.cell hj
    rw [show 0 + j * Dat.n (List Int) + 0 = j by show 0 + j * 1 + 0 = j; omega]
    exact this
def isLeft (b a : Nat) (M : List Int) (j : Nat) : Int → Int := fun c => if c ∈ (M.take j).drop a ∧ 0 ≤ c ∧ c < b then 1 else 0
theorem firsts_stop {a b : Nat} {m : List Int} {j : Nat} (h : a ≤ j) : ((List.range a).take (j + 1)).map (firstsOf b m) = ((List.range a).take j).map (firstsOf b m) := by
  rw [List.take_of_length_le (by rw [List.length_range]; omega), List.take_of_length_le (by rw [List.length_range]; omega)]
theorem left_step {b a : Nat} {M : List Int} {j : Nat} {c : Int} (hx : M[j]? = some c) (ha : a ≤ j) (h0 : 0 ≤ c) (hb : c < b) (F : Int → Int) (h : ∀ z, F z = isLeft b a M j z) : ∀ z, (if z = c then 1 else F z) = isLeft b a M (j + 1) z := fun z => by
  have e : (M.take (j + 1)).drop a = (M.take j).drop a ++ [c] := by
    have hj := (List.getElem?_eq_some_iff.1 hx).1
    rw [List.take_add_one, hx, Option.toList_some, List.drop_append_of_le_length (by rw [List.length_take]; omega)]
  unfold isLeft
  rw [e]
  by_cases q : z = c
  · subst q
    rw [if_pos rfl, if_pos ⟨by simp, h0, hb⟩]
  · rw [if_neg q, h z]
    unfold isLeft
    congr 1
    simp [q]
theorem left_same {b a : Nat} {M : List Int} {j : Nat} {c : Int} (hx : M[j]? = some c) (hn : j < a ∨ ¬ c < b) : ∀ z, isLeft b a M (j + 1) z = isLeft b a M j z := fun z => by
  unfold isLeft
  have hj := (List.getElem?_eq_some_iff.1 hx).1
  rcases hn with h | h
  · rw [List.drop_of_length_le (by rw [List.length_take]; omega), List.drop_of_length_le (by rw [List.length_take]; omega)]
  · by_cases ha : j < a
    · rw [List.drop_of_length_le (by rw [List.length_take]; omega), List.drop_of_length_le (by rw [List.length_take]; omega)]
    · have e : (M.take (j + 1)).drop a = (M.take j).drop a ++ [c] := by
        rw [List.take_add_one, hx, Option.toList_some, List.drop_append_of_le_length (by rw [List.length_take]; omega)]
      rw [e]
      congr 1
      by_cases q : z = c
      · subst q; simp [h]
      · simp [q]
set_option maxHeartbeats 4000000 in
set_option maxRecDepth 100000 in
theorem range_any (p q : List (List Change)) (vp vq : Value) (w : World) (hp : Rdv w Never vp p) (hq : Rdv w Never vq q) (m : Int) (hm : w.cell? ⟨1, 0, none⟩ = some (.int .i64 m)) :
    Calls Tryz.prog 11 #[vp, vq] w fun e w' => ∃ r, e = .returned (.tuple #[r, errV (rangeFault p q)]) ∧ Chg Never w w' ∧ Rdv w' Never r (rangeL p q) := by
  have hp0 := hp
  have hq0 := hq
  obtain ⟨a0, ca, rfl, a1, a2, -⟩ := rdv_slice hp
  obtain ⟨b0, cb, rfl, b1, b2, -⟩ := rdv_slice hq
  unfold maxLen at a2 b2
  by_cases h4 : 4 < p.length ∨ 4 < q.length
  · have HF : Hid (rangeFault p q = 3) := if_pos h4
    have HR : Hid (rangeL p q = []) := if_neg (by rw [HF.out]; decide)
    by_cases h4a : 4 < p.length
    · have t1 : decide ((4 : Int) < (p.length : Int)) = true := decide_eq_true (by omega)
      go_enter Tryz.func11, Tryz.ntmps11
      go_wp2_with fail
      go_ret2
      exact ⟨_, by rw [HF.out, errV_pos (by decide)]; rfl, Chg.refl _ _, by rw [HR.out]; exact rdv_nil _ _⟩
    · have t1 : decide ((4 : Int) < (p.length : Int)) = false := decide_eq_false (by omega)
      have t2 : decide ((4 : Int) < (q.length : Int)) = true := decide_eq_true (by omega)
      go_enter Tryz.func11, Tryz.ntmps11
      go_wp2_with fail
      go_ret2
      exact ⟨_, by rw [HF.out, errV_pos (by decide)]; rfl, Chg.refl _ _, by rw [HR.out]; exact rdv_nil _ _⟩
  · have t1 : decide ((4 : Int) < (p.length : Int)) = false := decide_eq_false (by omega)
    have t2 : decide ((4 : Int) < (q.length : Int)) = false := decide_eq_false (by omega)
    have HF : Hid (rangeFault p q = firstOf (fun c => (patchFault c).2) (p ++ q)) := if_neg h4
    have HTP : Hid (textsF p = firstOf (fun c => (patchFault c).2) p) := if_neg (by omega)
    have HTQ : Hid (textsF q = firstOf (fun c => (patchFault c).2) q) := if_neg (by omega)
    have hpl : p.length ≤ 4 := by omega
    have hql : q.length ≤ 4 := by omega
    go_enter Tryz.func11, Tryz.ntmps11
    go_wp2_with fail
    refine (rtexts_any p _ _ hp0 m hm).mono ?_
    rintro e w1 ⟨r1, rfl, hc1, hr1⟩
    by_cases hz1 : textsF p = 0
    · have HZ1 := Lib.hid hz1
      rw [show textsR p = p.map rtextOf from if_pos hz1] at hr1
      rw [hz1, errV_zero]
      clear hz1
      obtain ⟨ra, rca, rfl, -, -, -⟩ := rdv_slice hr1
      go_wp2_with fail
      refine (rtexts_any q _ _ (hq0.never hc1) m (hc1.cellNever hm)).mono ?_
      rintro e w2 ⟨r2, rfl, hc2, hr2⟩
      have hw2 := hc1.trans hc2
      by_cases hz2 : textsF q = 0
      · have HZ2 := Lib.hid hz2
        rw [show textsR q = q.map rtextOf from if_pos hz2] at hr2
        rw [hz2, errV_zero]
        clear hz2
        obtain ⟨rb, rcb, rfl, -, -, -⟩ := rdv_slice hr2
        have HFZ : Hid (rangeFault p q = 0) := by rw [Hid, HF.out, firstOf_app, ← HTP.out, HZ1.out, if_pos rfl, ← HTQ.out, HZ2.out]
        have hall : ∀ c, (c ∈ p ∨ c ∈ q) → (rtextOf c).length ≤ 99000 := fun c hc => by
          have h := HFZ.out
          rw [HF.out, firstOf_zero] at h
          unfold rtextOf
          rw [List.length_map]
          exact linesG_few (h c (List.mem_append.2 hc))
        have hlA : ∀ x ∈ p.map rtextOf, x.length ≤ 99000 := fun x hx => by
          obtain ⟨c, hc, rfl⟩ := List.mem_map.1 hx
          exact hall c (.inl hc)
        have hlB : ∀ x ∈ q.map rtextOf, x.length ≤ 99000 := fun x hx => by
          obtain ⟨c, hc, rfl⟩ := List.mem_map.1 hx
          exact hall c (.inr hc)
        have HRL : Hid (rangeL p q = rangeOut p.length q.length (rangeM p q)) := if_pos HFZ.out
        have HM : Hid (rangeM p q = matchR (costsOf (p.map rtextOf) (q.map rtextOf))) := rfl
        have eA : (p.map rtextOf).length = p.length := List.length_map ..
        have eB : (q.map rtextOf).length = q.length := List.length_map ..
        have hvA := (hr1.sub (O' := Never) (fun _ _ q => q.elim)).never hc2
        have hvB := hr2.sub (O' := Never) (fun _ _ q => q.elim)
        generalize p.map rtextOf = A at hlA HM eA hvA
        generalize q.map rtextOf = B at hlB HM eB hvB
        rw [eA] at hvA
        rw [eB] at hvB
        rw [eB]
        obtain ⟨n, hN⟩ : ∃ n, p.length + q.length = n := ⟨_, rfl⟩
        have HN := Lib.hid hN
        have hn8 : n ≤ 8 := by omega
        have hAB : A.length + B.length = n := by omega
        have eN : (p.length : Int) + (q.length : Int) = (n : Int) := by omega
        have sN : IntKind.i64.wrap (n : Int) = n := IntWalk.i64_in _ (by omega)
        obtain ⟨ib, ib1, ib2, ib3, ib4⟩ := info_parts (show (Tryz.prog.info? 34).map (fun i => (i.zero, i.size, i.bytes)) = some (some (.slice none 0 0), 1, 24) by kernel_rfl)
        clear hr1 hr2 hp hq hp0 hq0 hc1 hc2 hN
        go_wp2_with (at_make; refine wpList_make_full _ rfl _ _ 87 rfl 0 34 ib (.slice none 0 0) 1 Tryz.underlying87 ib1 ib2 ib3 .i64 .i64 _ _ n rfl rfl rfl rfl (by rw [ib4]; omega) (by unfold maxLen; omega) (Nat.zero_le _) ?_; intro w3 hown0 hgrow)
        have hT := valRow_made (z := .slice none 0 0) rfl hown0
        have hc3 := (Chg.refl Never w2).trans' (Chg.of_grown hgrow) (fun _ _ h => by cases h)
        have hBlt := hT.lt
        obtain ⟨BB, hBB⟩ : ∃ BB, w2.heap.size = BB := ⟨_, rfl⟩
        have hBBw : w2.heap.size ≤ BB := Nat.le_of_eq hBB
        rw [hBB] at hT hBlt ⊢
        have hC0 : CostRows A B BB w3 0 (fun _ => .slice none 0 0) := ⟨by rw [hAB]; exact hT, fun j hj => by omega, fun _ _ _ => rfl⟩
        clear hown0 hgrow ib1 ib2 ib3 ib4 hT hBB
        go_wp2_with fail
        go_loopw [52] (fun iv wr => ∃ (i : Nat) (g : Nat → Value), i ≤ n ∧ iv = .int .i64 i ∧ Chg Never w2 wr ∧ CostRows A B BB wr i g ∧ BB < wr.heap.size) (fun iv _ => n - (intOf iv).toNat)
        case atStart => exact ⟨0, _, Nat.zero_le _, rfl, hc3, hC0, hBlt⟩
        case round =>
          clear hC0 hc3 hBlt
          obtain ⟨i, g, hi, rfl, hc, hC, hBlt2⟩ := hrel
          rename World => wr
          by_cases hlt : i < n
          · have hrow := hC.row
            rw [hAB] at hrow
            have hV0 : ValRow 34 BB wr n (fun j => if j = i then .slice none 0 0 else g j) := hrow.congr (fun j hj => by
              by_cases q : j = i
              · subst q; rw [if_pos rfl, hC.rest j (Nat.le_refl _) (by omega)]
              · rw [if_neg q])
            clear hrow
            go_wp2_with fail
            go_loopw [56] (fun kv wi => ∃ (k : Nat) (vi : Value), k ≤ n ∧ kv = .int .i64 k ∧ Chg (fun x => x = BB ∨ wr.heap.size ≤ x) wr wi ∧ ValRow 34 BB wi n (fun j => if j = i then vi else g j) ∧ Own 3 wi (fun x => x < wr.heap.size) vi (((List.range n).take k).map (rangeCost A B i))) (fun kv _ => n - (intOf kv).toNat)
            case atStart => exact ⟨0, _, Nat.zero_le _, rfl, Chg.refl _ _, hV0, own_nil _ _ _⟩
            case round =>
              clear hV0
              obtain ⟨k, vi, hk, rfl, hci, hval, hown⟩ := hrel
              rename World => wi
              obtain ⟨va, vn, vc, rfl⟩ := own_isSlice hown
              have hw2i : Chg Never w2 wi := hc.trans' hci (fun x hx hh => by
                rcases hh with hh | hh
                · omega
                · have := hc.size; omega)
              by_cases hkt : k < n
              · have cB := hval.cell hlt
                rw [if_pos rfl] at cB
                have ib1 : (i : Int) < (n : Int) := by omega
                have hyi : I64 (rangeCost A B i k) := by have := cost_bd hlA hlB i k; unfold I64; omega
                have hrt : Hid (((List.range n).take (k + 1)).map (rangeCost A B i) = ((List.range n).take k).map (rangeCost A B i) ++ [rangeCost A B i k]) := by
                  have := row_take (a := A) (b := B) (i := i) (k := k) (by rw [hAB]; exact hkt)
                  rw [hAB] at this
                  exact this
                have hlen : (((List.range n).take k).map (rangeCost A B i)).length ≤ 1000000000 := by rw [List.length_map, List.length_take, List.length_range]; omega
                go_wp2_with fail
                refine wp_region_held_drew (S := fun w' => Chg (fun x => x = BB ∨ wr.heap.size ≤ x) wr w') (by kernel_rfl) hci.drew (fun hH => ?_)
                refine' wpAnyH_take (i := 0) ?hi0 (by kernel_rfl) (by kernel_rfl) (by kernel_rfl) ?hQ0 (Or.inl ⟨?hw0, ?hy0⟩) (by assumption) ?_
                case hi0 => (simp only [List.getElem?_toArray, List.getElem?_cons_zero]; rfl)
                case hQ0 => exact fun _ _ _ h => h
                case hw0 => rfl
                case hy0 => (intro w' hSw; (try dsimp only at hSw); go_simp; all_goals with_reducible rfl)
                try simp only [Act.put, List.setIfInBounds_toArray, List.set_cons_zero, List.set_cons_succ]
                refine' wpAnyH_take (i := 1) ?hi1 (by kernel_rfl) (by kernel_rfl) (by kernel_rfl) ?hQ1 (Or.inl ⟨?hw1, ?hy1⟩) (by assumption) ?_
                case hi1 => (simp only [List.getElem?_toArray, List.getElem?_cons_succ, List.getElem?_cons_zero]; rfl)
                case hQ1 => exact fun _ _ _ h => h
                case hw1 => rfl
                case hy1 => (intro w' hSw; (try dsimp only at hSw); go_simp; all_goals with_reducible rfl)
                try simp only [Act.put, List.setIfInBounds_toArray, List.set_cons_zero, List.set_cons_succ]
                refine' wpAnyH_take (i := 2) ?hi2 (by kernel_rfl) (by kernel_rfl) (by kernel_rfl) ?hQ2 (Or.inl ⟨?hw2, ?hy2⟩) (by assumption) ?_
                case hi2 => (simp only [List.getElem?_toArray, List.getElem?_cons_succ, List.getElem?_cons_zero]; rfl)
                case hQ2 => exact fun _ _ _ h => h
                case hw2 => rfl
                case hy2 => (intro w' hSw; (try dsimp only at hSw); go_simp; all_goals with_reducible rfl)
                try simp only [Act.put, List.setIfInBounds_toArray, List.set_cons_zero, List.set_cons_succ]
                refine' wpAnyH_take (i := 3) ?hi3 (by kernel_rfl) (by kernel_rfl) (by kernel_rfl) ?hQ3 (Or.inl ⟨?hw3, ?hy3⟩) (by assumption) ?_
                case hi3 => (simp only [List.getElem?_toArray, List.getElem?_cons_succ, List.getElem?_cons_zero]; rfl)
                case hQ3 => exact fun _ _ _ h => h
                case hw3 => rfl
                case hy3 => (intro w' hSw; (try dsimp only at hSw); go_simp; all_goals with_reducible rfl)
                try simp only [Act.put, List.setIfInBounds_toArray, List.set_cons_zero, List.set_cons_succ]
                refine' wpAnyH_take (i := 4) ?hi4 (by kernel_rfl) (by kernel_rfl) (by kernel_rfl) ?hQ4 (Or.inl ⟨?hw4, ?hy4⟩) (by assumption) ?_
                case hi4 => (simp only [List.getElem?_toArray, List.getElem?_cons_succ, List.getElem?_cons_zero]; rfl)
                case hQ4 => exact fun _ _ _ h => h
                case hw4 => rfl
                case hy4 => (intro w' hSw; (try dsimp only at hSw); go_simp; all_goals with_reducible rfl)
                try simp only [Act.put, List.setIfInBounds_toArray, List.set_cons_zero, List.set_cons_succ]
                refine' wpAnyH_take (i := 6) ?hi6 (by kernel_rfl) (by kernel_rfl) (by kernel_rfl) ?hQ6 (Or.inl ⟨?hw6, ?hy6⟩) (by assumption) ?_
                case hi6 => (simp only [List.getElem?_toArray, List.getElem?_cons_succ, List.getElem?_cons_zero]; rfl)
                case hQ6 => exact fun _ _ _ h => h
                case hw6 => rfl
                case hy6 => (intro w' hSw; (try dsimp only at hSw); go_simp; all_goals with_reducible rfl)
                try simp only [Act.put, List.setIfInBounds_toArray, List.set_cons_zero, List.set_cons_succ]
                refine' wpAnyH_take (i := 7) ?hi7 (by kernel_rfl) (by kernel_rfl) (by kernel_rfl) ?hQ7 (Or.inl ⟨?hw7, ?hy7⟩) (by assumption) ?_
                case hi7 => (simp only [List.getElem?_toArray, List.getElem?_cons_succ, List.getElem?_cons_zero]; rfl)
                case hQ7 => exact fun _ _ _ h => h
                case hw7 => rfl
                case hy7 => (intro w' hSw; (try dsimp only at hSw); go_simp; all_goals with_reducible rfl)
                try simp only [Act.put, List.setIfInBounds_toArray, List.set_cons_zero, List.set_cons_succ]
                refine' wpAnyH_take (i := 8) ?hi8 (by kernel_rfl) (by kernel_rfl) (by kernel_rfl) ?hQ8 (Or.inl ⟨?hw8, ?hy8⟩) (by assumption) ?_
                case hi8 => (simp only [List.getElem?_toArray, List.getElem?_cons_succ, List.getElem?_cons_zero]; rfl)
                case hQ8 => exact fun _ _ _ h => h
                case hw8 => rfl
                case hy8 => (intro w' hSw; (try dsimp only at hSw); go_simp; all_goals with_reducible rfl)
                try simp only [Act.put, List.setIfInBounds_toArray, List.set_cons_zero, List.set_cons_succ]
                refine' wpAnyH_take (i := 9) ?hi9 (by kernel_rfl) (by kernel_rfl) (by kernel_rfl) ?hQ9 (Or.inl ⟨?hw9, ?hy9⟩) (by assumption) ?_
                case hi9 => (simp only [List.getElem?_toArray, List.getElem?_cons_succ, List.getElem?_cons_zero]; rfl)
                case hQ9 => exact fun _ _ _ h => h
                case hw9 => rfl
                case hy9 => (intro w' hSw; (try dsimp only at hSw); go_simp; all_goals with_reducible rfl)
                try simp only [Act.put, List.setIfInBounds_toArray, List.set_cons_zero, List.set_cons_succ]
                refine wpAnyH_ready (rs := [5, 10]) (by kernel_rfl) (by simp) ?_
                refine AllReadyH.cons rfl (fun K hK => ?_) (AllReadyH.cons rfl (fun K hK => ?_) AllReadyH.nil)
                · go_simp
                  refine hK.out _ _ (by assumption) (fun hH => ?_)
                  clear hK K
                  try simp only [Act.put, List.setIfInBounds_toArray, List.set_cons_zero, List.set_cons_succ]
                  refine wpAnyH_ready (rs := [10]) (by kernel_rfl) (by simp) ?_
                  refine AllReadyH.cons rfl (fun K hK => ?_) AllReadyH.nil
                  go_simp
                  go_at_call 43
                  refine (cost_is A B i k _ _ _ (hvA.never hw2i.drew) (hvB.never hw2i.drew) hlA hlB (by omega) (by omega)).mono ?_
                  rintro e wq ⟨rfl, hcq⟩
                  try go_wp2_with fail
                  have hcq0 : Chg Never wi wq := (Chg.refl Never wi).drew.trans hcq
                  have hSq : Chg (fun x => x = BB ∨ wr.heap.size ≤ x) wr wq := hci.trans (hcq0.mono (fun _ _ h => h.elim))
                  refine hK.out _ _ hSq (fun hH => ?_)
                  clear hK K hcq
                  try simp only [Act.put, List.setIfInBounds_toArray, List.set_cons_zero, List.set_cons_succ]
                  have cBq := hcq0.cellNever cB
                  have cBa := ((Chg.refl Never wq).alloc (.cells #[.int .i64 (rangeCost A B i k)] 3)).cellNever cBq
                  have hownq := hown.never hcq0
                  have hValq := hval.keep hcq0 (fun h => h)
                  have hOq : ∀ x, x < wr.heap.size → x < wq.heap.size := fun x hx => Nat.lt_of_lt_of_le hx hSq.size
                  refine wpAnyH_ready (rs := [11]) (by kernel_rfl) (by simp) ?_
                  refine AllReadyH.cons rfl (fun K hK => ?_) AllReadyH.nil
                  go_simp
                  refine hK.out _ _ (hSq.alloc _) (fun hH => ?_)
                  clear hK K
                  try simp only [Act.put, List.setIfInBounds_toArray, List.set_cons_zero, List.set_cons_succ]
                  refine wpAnyH_ready (rs := [12]) (by kernel_rfl) (by simp) ?_
                  refine AllReadyH.cons rfl (fun K hK => ?_) AllReadyH.nil
                  refine step_push (by rfl) _ _ 34 (by rfl) elemOk_ints (O := fun x => x < wr.heap.size) (l := ((List.range n).take k).map (rangeCost A B i)) (y := rangeCost A B i k) (by rfl) (by rfl) (by simp) hownq ⟨rfl, hyi⟩ hOq hlen ?_
                  intro v' w5 hown5 hc5 hk5
                  obtain ⟨ad, nn, cc, rfl⟩ := own_slice hk5
                  have hS5 : Chg (fun x => x = BB ∨ wr.heap.size ≤ x) wr w5 := hSq.trans (hc5.mono (fun x _ hx => .inr (by have := own_out hownq x hx; omega)))
                  have hnB : ¬ OwnB (.slice va vn vc) BB := fun hx => own_out hownq BB hx hBlt2
                  refine hK.out _ _ hS5 (fun _ => ?_)
                  clear hK K
                  try simp only [Act.put, List.setIfInBounds_toArray, List.set_cons_zero, List.set_cons_succ]
                  have cB5 := hc5.cell cBq hnB
                  have hVal5 := hValq.keep hc5 hnB
                  have fB5 := hVal5.free i
                  clear cB cBq cBa hcq0 hownq hValq hSq hval hown
                  refine' wpAnyH_take (i := 13) ?hi13 (by kernel_rfl) (by kernel_rfl) (by kernel_rfl) ?hQ13 (Or.inl ⟨?hw13, ?hy13⟩) (by assumption) ?_
                  case hi13 => (simp only [List.getElem?_toArray, List.getElem?_cons_succ, List.getElem?_cons_zero]; rfl)
                  case hQ13 => exact fun _ _ _ h => h
                  case hw13 => rfl
                  case hy13 => (intro w' hSw; (try dsimp only at hSw); go_simp; all_goals with_reducible rfl)
                  try simp only [Act.put, List.setIfInBounds_toArray, List.set_cons_zero, List.set_cons_succ]
                  refine wpAnyH_ready (rs := [14]) (by kernel_rfl) (by simp) ?_
                  refine AllReadyH.cons rfl (fun K hK => ?_) AllReadyH.nil
                  go_simp
                  refine hK.out _ _ (hS5.setCell (.inr (.inl rfl)) _) (fun _ => ?_)
                  clear hK K
                  try simp only [Act.put, List.setIfInBounds_toArray, List.set_cons_zero, List.set_cons_succ]
                  refine wpAnyH_done (by kernel_rfl) ?_ _
                  have hS6 := hS5.setCell (p := ⟨BB, i, none⟩) (.inr (.inl rfl)) (.slice (some ad) nn cc)
                  have hVal6 : ValRow 34 BB (w5.setCell ⟨BB, i, none⟩ (.slice (some ad) nn cc)) n (fun j => if j = i then .slice (some ad) nn cc else g j) := (hVal5.set hlt _).congr (fun j _ => by by_cases q : j = i <;> simp [q])
                  have hown6 := hown5.keep (O' := fun x => x = BB) (O'' := fun x => x < wr.heap.size) ((Chg.refl (fun x => x = BB) w5).setCell (p := ⟨BB, i, none⟩) (.inr rfl) (.slice (some ad) nn cc)) (fun x _ hx => by have h : x = BB := hx; omega) (fun _ _ h => h)
                  clear cB5 fB5 hVal5 hS5 hown5 hc5 hk5
                  go_wp2_with fail
                  go_roundw
                  case rel => exact ⟨k + 1, .slice (some ad) nn cc, by omega, by go_num, hS6, hVal6, by rw [hrt.out]; exact hown6⟩
                  case measure => simp [intOf] <;> omega
                · go_simp
                  go_at_call 43
                  refine (cost_is A B i k _ _ _ (hvA.never hw2i.drew) (hvB.never hw2i.drew) hlA hlB (by omega) (by omega)).mono ?_
                  rintro e wq ⟨rfl, hcq⟩
                  try go_wp2_with fail
                  have hcq0 : Chg Never wi wq := (Chg.refl Never wi).drew.trans hcq
                  have hSq : Chg (fun x => x = BB ∨ wr.heap.size ≤ x) wr wq := hci.trans (hcq0.mono (fun _ _ h => h.elim))
                  refine hK.out _ _ hSq (fun hH => ?_)
                  clear hK K hcq
                  try simp only [Act.put, List.setIfInBounds_toArray, List.set_cons_zero, List.set_cons_succ]
                  have cBq := hcq0.cellNever cB
                  have cBa := ((Chg.refl Never wq).alloc (.cells #[.int .i64 (rangeCost A B i k)] 3)).cellNever cBq
                  have hownq := hown.never hcq0
                  have hValq := hval.keep hcq0 (fun h => h)
                  have hOq : ∀ x, x < wr.heap.size → x < wq.heap.size := fun x hx => Nat.lt_of_lt_of_le hx hSq.size
                  refine wpAnyH_ready (rs := [5, 11]) (by kernel_rfl) (by simp) ?_
                  refine AllReadyH.cons rfl (fun K hK => ?_) (AllReadyH.cons rfl (fun K hK => ?_) AllReadyH.nil)
                  · go_simp
                    refine hK.out _ _ (by assumption) (fun hH => ?_)
                    clear hK K
                    try simp only [Act.put, List.setIfInBounds_toArray, List.set_cons_zero, List.set_cons_succ]
                    refine wpAnyH_ready (rs := [11]) (by kernel_rfl) (by simp) ?_
                    refine AllReadyH.cons rfl (fun K hK => ?_) AllReadyH.nil
                    go_simp
                    refine hK.out _ _ (hSq.alloc _) (fun hH => ?_)
                    clear hK K
                    try simp only [Act.put, List.setIfInBounds_toArray, List.set_cons_zero, List.set_cons_succ]
                    refine wpAnyH_ready (rs := [12]) (by kernel_rfl) (by simp) ?_
                    refine AllReadyH.cons rfl (fun K hK => ?_) AllReadyH.nil
                    refine step_push (by rfl) _ _ 34 (by rfl) elemOk_ints (O := fun x => x < wr.heap.size) (l := ((List.range n).take k).map (rangeCost A B i)) (y := rangeCost A B i k) (by rfl) (by rfl) (by simp) hownq ⟨rfl, hyi⟩ hOq hlen ?_
                    intro v' w5 hown5 hc5 hk5
                    obtain ⟨ad, nn, cc, rfl⟩ := own_slice hk5
                    have hS5 : Chg (fun x => x = BB ∨ wr.heap.size ≤ x) wr w5 := hSq.trans (hc5.mono (fun x _ hx => .inr (by have := own_out hownq x hx; omega)))
                    have hnB : ¬ OwnB (.slice va vn vc) BB := fun hx => own_out hownq BB hx hBlt2
                    refine hK.out _ _ hS5 (fun _ => ?_)
                    clear hK K
                    try simp only [Act.put, List.setIfInBounds_toArray, List.set_cons_zero, List.set_cons_succ]
                    have cB5 := hc5.cell cBq hnB
                    have hVal5 := hValq.keep hc5 hnB
                    have fB5 := hVal5.free i
                    clear cB cBq cBa hcq0 hownq hValq hSq hval hown
                    refine' wpAnyH_take (i := 13) ?hi13 (by kernel_rfl) (by kernel_rfl) (by kernel_rfl) ?hQ13 (Or.inl ⟨?hw13, ?hy13⟩) (by assumption) ?_
                    case hi13 => (simp only [List.getElem?_toArray, List.getElem?_cons_succ, List.getElem?_cons_zero]; rfl)
                    case hQ13 => exact fun _ _ _ h => h
                    case hw13 => rfl
                    case hy13 => (intro w' hSw; (try dsimp only at hSw); go_simp; all_goals with_reducible rfl)
                    try simp only [Act.put, List.setIfInBounds_toArray, List.set_cons_zero, List.set_cons_succ]
                    refine wpAnyH_ready (rs := [14]) (by kernel_rfl) (by simp) ?_
                    refine AllReadyH.cons rfl (fun K hK => ?_) AllReadyH.nil
                    go_simp
                    refine hK.out _ _ (hS5.setCell (.inr (.inl rfl)) _) (fun _ => ?_)
                    clear hK K
                    try simp only [Act.put, List.setIfInBounds_toArray, List.set_cons_zero, List.set_cons_succ]
                    refine wpAnyH_done (by kernel_rfl) ?_ _
                    have hS6 := hS5.setCell (p := ⟨BB, i, none⟩) (.inr (.inl rfl)) (.slice (some ad) nn cc)
                    have hVal6 : ValRow 34 BB (w5.setCell ⟨BB, i, none⟩ (.slice (some ad) nn cc)) n (fun j => if j = i then .slice (some ad) nn cc else g j) := (hVal5.set hlt _).congr (fun j _ => by by_cases q : j = i <;> simp [q])
                    have hown6 := hown5.keep (O' := fun x => x = BB) (O'' := fun x => x < wr.heap.size) ((Chg.refl (fun x => x = BB) w5).setCell (p := ⟨BB, i, none⟩) (.inr rfl) (.slice (some ad) nn cc)) (fun x _ hx => by have h : x = BB := hx; omega) (fun _ _ h => h)
                    clear cB5 fB5 hVal5 hS5 hown5 hc5 hk5
                    go_wp2_with fail
                    go_roundw
                    case rel => exact ⟨k + 1, .slice (some ad) nn cc, by omega, by go_num, hS6, hVal6, by rw [hrt.out]; exact hown6⟩
                    case measure => simp [intOf] <;> omega
                  · go_simp
                    refine hK.out _ _ (hSq.alloc _) (fun hH => ?_)
                    clear hK K
                    try simp only [Act.put, List.setIfInBounds_toArray, List.set_cons_zero, List.set_cons_succ]
                    refine wpAnyH_ready (rs := [5]) (by kernel_rfl) (by simp) ?_
                    refine AllReadyH.cons rfl (fun K hK => ?_) AllReadyH.nil
                    go_simp
                    refine hK.out _ _ (by assumption) (fun hH => ?_)
                    clear hK K
                    try simp only [Act.put, List.setIfInBounds_toArray, List.set_cons_zero, List.set_cons_succ]
                    refine wpAnyH_ready (rs := [12]) (by kernel_rfl) (by simp) ?_
                    refine AllReadyH.cons rfl (fun K hK => ?_) AllReadyH.nil
                    refine step_push (by rfl) _ _ 34 (by rfl) elemOk_ints (O := fun x => x < wr.heap.size) (l := ((List.range n).take k).map (rangeCost A B i)) (y := rangeCost A B i k) (by rfl) (by rfl) (by simp) hownq ⟨rfl, hyi⟩ hOq hlen ?_
                    intro v' w5 hown5 hc5 hk5
                    obtain ⟨ad, nn, cc, rfl⟩ := own_slice hk5
                    have hS5 : Chg (fun x => x = BB ∨ wr.heap.size ≤ x) wr w5 := hSq.trans (hc5.mono (fun x _ hx => .inr (by have := own_out hownq x hx; omega)))
                    have hnB : ¬ OwnB (.slice va vn vc) BB := fun hx => own_out hownq BB hx hBlt2
                    refine hK.out _ _ hS5 (fun _ => ?_)
                    clear hK K
                    try simp only [Act.put, List.setIfInBounds_toArray, List.set_cons_zero, List.set_cons_succ]
                    have cB5 := hc5.cell cBq hnB
                    have hVal5 := hValq.keep hc5 hnB
                    have fB5 := hVal5.free i
                    clear cB cBq cBa hcq0 hownq hValq hSq hval hown
                    refine' wpAnyH_take (i := 13) ?hi13 (by kernel_rfl) (by kernel_rfl) (by kernel_rfl) ?hQ13 (Or.inl ⟨?hw13, ?hy13⟩) (by assumption) ?_
                    case hi13 => (simp only [List.getElem?_toArray, List.getElem?_cons_succ, List.getElem?_cons_zero]; rfl)
                    case hQ13 => exact fun _ _ _ h => h
                    case hw13 => rfl
                    case hy13 => (intro w' hSw; (try dsimp only at hSw); go_simp; all_goals with_reducible rfl)
                    try simp only [Act.put, List.setIfInBounds_toArray, List.set_cons_zero, List.set_cons_succ]
                    refine wpAnyH_ready (rs := [14]) (by kernel_rfl) (by simp) ?_
                    refine AllReadyH.cons rfl (fun K hK => ?_) AllReadyH.nil
                    go_simp
                    refine hK.out _ _ (hS5.setCell (.inr (.inl rfl)) _) (fun _ => ?_)
                    clear hK K
                    try simp only [Act.put, List.setIfInBounds_toArray, List.set_cons_zero, List.set_cons_succ]
                    refine wpAnyH_done (by kernel_rfl) ?_ _
                    have hS6 := hS5.setCell (p := ⟨BB, i, none⟩) (.inr (.inl rfl)) (.slice (some ad) nn cc)
                    have hVal6 : ValRow 34 BB (w5.setCell ⟨BB, i, none⟩ (.slice (some ad) nn cc)) n (fun j => if j = i then .slice (some ad) nn cc else g j) := (hVal5.set hlt _).congr (fun j _ => by by_cases q : j = i <;> simp [q])
                    have hown6 := hown5.keep (O' := fun x => x = BB) (O'' := fun x => x < wr.heap.size) ((Chg.refl (fun x => x = BB) w5).setCell (p := ⟨BB, i, none⟩) (.inr rfl) (.slice (some ad) nn cc)) (fun x _ hx => by have h : x = BB := hx; omega) (fun _ _ h => h)
                    clear cB5 fB5 hVal5 hS5 hown5 hc5 hk5
                    go_wp2_with fail
                    go_roundw
                    case rel => exact ⟨k + 1, .slice (some ad) nn cc, by omega, by go_num, hS6, hVal6, by rw [hrt.out]; exact hown6⟩
                    case measure => simp [intOf] <;> omega
              · obtain rfl : k = n := by omega
                have hrowi : ((List.range k).take k).map (rangeCost A B i) = rowOf A B i := by
                  unfold rowOf
                  rw [hAB, List.take_of_length_le (by simp)]
                rw [hrowi] at hown
                have hC2 : CostRows A B BB wi (i + 1) (fun j => if j = i then .slice va vn vc else g j) := ⟨by rw [hAB]; exact hval, fun j hj => by
                  by_cases q : j = i
                  · subst q
                    rw [if_pos rfl]
                    exact hown.rdv.sub (fun x _ hx => by have h : x = BB := hx; omega)
                  · rw [if_neg q]
                    exact (hC.done j (by omega)).keep hci (fun x hx hh => by
                      rcases hh with hh | hh
                      · exact hh
                      · omega) (fun _ _ h => h), fun j hj hj2 => by rw [if_neg (by omega)]; exact hC.rest j (by omega) hj2⟩
                have hB3 := Nat.lt_of_lt_of_le hBlt2 hci.size
                clear hval hown hC hci hrowi
                go_wp2_with fail
                go_roundw
                case rel => exact ⟨i + 1, _, by omega, by go_num, hw2i, hC2, hB3⟩
                case measure => simp [intOf] <;> omega
          · obtain rfl : i = n := by omega
            have hRows : Rdv wr Never (.slice (some ⟨BB, 0, none⟩) i i) (costsOf A B) := by
              have := rows_rdv (hAB.symm ▸ hC) (by omega)
              rw [hAB] at this
              exact this
            have hch := choose_any (costsOf A B) _ wr hRows (by rw [costs_len]; omega) (costs_bd hlA hlB)
            have hCho := choice_of hlA hlB
            rw [hAB] at hCho
            rw [← HM.out] at hch
            have HCho : Hid (Choice i (rangeM p q)) := by rw [HM.out]; exact hCho
            clear hCho HM hRows hC hBlt2
            generalize rangeM p q = M at hch HCho HRL
            have hch := Lib.hid hch
            have hML : M.length = i := HCho.out.len
            have hmm := @run_makeMap Tryz.prog
            go_wp2_with fail
            refine hch.out.mono ?_
            rintro e w5 ⟨r5, rfl, hc5, hr5⟩
            have hw5 := (hw2.trans hc).trans hc5
            obtain ⟨ma, mcp, rfl, m1, m2, m3⟩ := rdv_slice hr5
            unfold maxLen at m2
            clear hch hr5 hc5
            have hA6 : Chg Never w5 (w5.alloc (.map #[] 0)) := (Chg.refl Never w5).alloc _
            have hm0 := intMap_made w5
            rw [hML]
            go_wp2_with fail
            clear hmm
            obtain ⟨MB, hMB⟩ : ∃ MB, w5.heap.size = MB := ⟨_, rfl⟩
            have hMBw : w5.heap.size ≤ MB := Nat.le_of_eq hMB
            rw [hMB] at hm0 ⊢
            clear hMB
            go_loopw [14, 80] (fun ov jv wr => ∃ (j : Nat) (F : Int → Int), j ≤ i ∧ jv = .int .i64 j ∧ Chg Never w5 wr ∧ IntMap wr MB j F ∧ Own 32 wr (Old (MB + 1)) ov (((List.range p.length).take j).map (firstsOf q.length M)) ∧ Hid (∀ z, F z = isLeft q.length p.length M j z)) (fun _ jv _ => i - (intOf jv).toNat)
            case atStart => exact ⟨0, _, Nat.zero_le _, rfl, hA6, hm0, own_nil _ _ _, fun z => by unfold isLeft; rw [if_neg (by simp)]⟩
            case round =>
              clear hm0 hA6
              obtain ⟨j, F, hj, rfl, hc, hmap, hown, hF⟩ := hrel
              rename World => wr
              obtain ⟨va, vn, vc, rfl⟩ := own_isSlice hown
              by_cases hjl : j < i
              · obtain ⟨c, hx⟩ : ∃ c, M[j]? = some c := ⟨M[j]'(by omega), by simp⟩
                obtain ⟨kc, rfl, hkc⟩ := HCho.out.mem c (List.mem_of_getElem? hx)
                obtain ⟨b, off, rfl, -, cM, hyi⟩ := elems_ints m3 hx
                have cM := hc.cellNever cM
                have ib : (j : Int) < (i : Int) := by omega
                have hgd : M.getD j 0 = (kc : Int) := by rw [List.getD_eq_getElem?_getD, hx]; rfl
                by_cases hjp : j < p.length
                · have tj : decide ((j : Int) < (p.length : Int)) = true := decide_eq_true (by omega)
                  have tjn : decide (j < p.length) = true := decide_eq_true hjp
                  have hF2 : Hid (∀ z, F z = isLeft q.length p.length M (j + 1) z) := fun z => by rw [left_same hx (.inl hjp), hF.out]
                  have hft0 := firsts_take (a := p.length) (b := q.length) (m := M) hjp
                  by_cases hkq : kc < q.length
                  · have tk : decide ((kc : Int) < (q.length : Int)) = true := decide_eq_true (by omega)
                    have tkn : decide (kc < q.length) = true := decide_eq_true hkq
                    have hft : Hid (((List.range p.length).take (j + 1)).map (firstsOf q.length M) = ((List.range p.length).take j).map (firstsOf q.length M) ++ [((j : Int), (kc : Int))]) := by rw [Hid, hft0, firstsOf, hgd, if_pos (by omega)]
                    clear hft0 hx m3 hF hgd
                    have hlen : (((List.range p.length).take j).map (firstsOf q.length M)).length ≤ 1000000000 := by rw [List.length_map, List.length_take, List.length_range]; omega
                    have hOo : ∀ x, Old (MB + 1) x → x < wr.heap.size := fun x hx => by unfold Old at hx; have := hmap.lt; omega
                    go_wp2_with (at_builtin; refine wpList_push (by rfl) _ _ 23 (by rfl) elemOk_pair (O := Old (MB + 1)) (l := ((List.range p.length).take j).map (firstsOf q.length M)) (y := ((j : Int), (kc : Int))) (by rfl) (by rfl) (by simp) hown rfl hOo hlen ?_; intro v' w7 hown7 hc7 _)
                    have hmap7 := hmap.keep hc7 (fun hh => own_out hown MB hh (Nat.lt_succ_self _))
                    have hw7 : Chg Never w5 w7 := hc.trans' hc7 (fun x hx hh => by have := own_out hown x hh; unfold Old at this; omega)
                    clear hc7 hown hmap hOo
                    go_wp2_with fail
                    go_roundw
                    case rel => exact ⟨j + 1, F, by omega, by go_num, hw7, hmap7.mono (by omega), by rw [hft.out]; exact hown7, hF2⟩
                    case measure => simp [intOf] <;> omega
                  · have tk : decide ((kc : Int) < (q.length : Int)) = false := decide_eq_false (by omega)
                    have tkn : decide (kc < q.length) = false := decide_eq_false hkq
                    have hft : Hid (((List.range p.length).take (j + 1)).map (firstsOf q.length M) = ((List.range p.length).take j).map (firstsOf q.length M) ++ [((j : Int), (-1 : Int))]) := by rw [Hid, hft0, firstsOf, hgd, if_neg (by omega)]
                    clear hft0 hx m3 hF hgd
                    have hlen : (((List.range p.length).take j).map (firstsOf q.length M)).length ≤ 1000000000 := by rw [List.length_map, List.length_take, List.length_range]; omega
                    have hOo : ∀ x, Old (MB + 1) x → x < wr.heap.size := fun x hx => by unfold Old at hx; have := hmap.lt; omega
                    go_wp2_with (at_builtin; refine wpList_push (by rfl) _ _ 23 (by rfl) elemOk_pair (O := Old (MB + 1)) (l := ((List.range p.length).take j).map (firstsOf q.length M)) (y := ((j : Int), (-1 : Int))) (by rfl) (by rfl) (by simp) hown rfl hOo hlen ?_; intro v' w7 hown7 hc7 _)
                    have hmap7 := hmap.keep hc7 (fun hh => own_out hown MB hh (Nat.lt_succ_self _))
                    have hw7 : Chg Never w5 w7 := hc.trans' hc7 (fun x hx hh => by have := own_out hown x hh; unfold Old at this; omega)
                    clear hc7 hown hmap hOo
                    go_wp2_with fail
                    go_roundw
                    case rel => exact ⟨j + 1, F, by omega, by go_num, hw7, hmap7.mono (by omega), by rw [hft.out]; exact hown7, hF2⟩
                    case measure => simp [intOf] <;> omega
                · have tj : decide ((j : Int) < (p.length : Int)) = false := decide_eq_false (by omega)
                  have tjn : decide (j < p.length) = false := decide_eq_false hjp
                  have hft := Lib.hid (firsts_stop (a := p.length) (b := q.length) (m := M) (j := j) (by omega))
                  by_cases hkq : kc < q.length
                  · have tk : decide ((kc : Int) < (q.length : Int)) = true := decide_eq_true (by omega)
                    have tkn : decide (kc < q.length) = true := decide_eq_true hkq
                    have hF2 := Lib.hid (left_step hx (show p.length ≤ j by omega) (by omega) (by omega) F hF.out)
                    obtain ⟨w7, hrun, hmap7, hc7⟩ := hmap.put (j := (kc : Int)) (c := 1) (by unfold maxLen; omega) hyi (by unfold I64; omega)
                    have hown7 := hown.keep (O'' := Old (MB + 1)) hc7 (fun x _ hx => by have h : x = MB := hx; unfold Old; omega) (fun _ _ h => h)
                    have hw7 : Chg Never w5 w7 := hc.trans' hc7 (fun x hx hh => by have h : x = MB := hh; omega)
                    clear hx m3 hF hgd hc7 hown hmap
                    go_wp2_with fail
                    go_roundw
                    case rel => exact ⟨j + 1, _, by omega, by go_num, hw7, hmap7, by rw [hft.out]; exact hown7, hF2⟩
                    case measure => simp [intOf] <;> omega
                  · have tk : decide ((kc : Int) < (q.length : Int)) = false := decide_eq_false (by omega)
                    have tkn : decide (kc < q.length) = false := decide_eq_false hkq
                    have hF2 : Hid (∀ z, F z = isLeft q.length p.length M (j + 1) z) := fun z => by rw [left_same hx (.inr (by omega)), hF.out]
                    clear hx m3 hF hgd
                    go_wp2_with fail
                    go_roundw
                    case rel => exact ⟨j + 1, F, by omega, by go_num, hc, hmap.mono (by omega), by rw [hft.out]; exact hown, hF2⟩
                    case measure => simp [intOf] <;> omega
              · obtain rfl : j = i := by omega
                have hft : ((List.range p.length).take j).map (firstsOf q.length M) = (List.range p.length).map (firstsOf q.length M) := by rw [List.take_of_length_le (by rw [List.length_range]; omega)]
                rw [hft] at hown
                have hF1 : Hid (∀ z : Nat, z < q.length → F z = if ((z : Int) ∈ M.drop p.length) then 1 else 0) := fun z hz => by
                  rw [hF.out]
                  unfold isLeft
                  rw [List.take_of_length_le (by omega)]
                  by_cases hm : (z : Int) ∈ M.drop p.length
                  · rw [if_pos ⟨hm, by omega, by omega⟩, if_pos hm]
                  · rw [if_neg (fun h => hm h.1), if_neg hm]
                clear hF hft m3
                rename World => wr
                go_wp2_with fail
                go_loopw [14, 122] (fun ov kv wz => ∃ k : Nat, k ≤ q.length ∧ kv = .int .i64 k ∧ Chg Never w5 wz ∧ IntMap wz MB j F ∧ Own 32 wz (Old (MB + 1)) ov ((List.range p.length).map (firstsOf q.length M) ++ (((List.range q.length).take k).filter fun (c : Nat) => decide ((c : Int) ∈ M.drop p.length)).map fun (c : Nat) => ((-1 : Int), (c : Int)))) (fun _ kv _ => q.length - (intOf kv).toNat)
                case atStart => exact ⟨0, Nat.zero_le _, rfl, hc, hmap, by simpa using hown⟩
                case round =>
                  clear hown hmap hc
                  obtain ⟨k, hk, rfl, hc, hmap, hown⟩ := hrel
                  rename World => wz
                  obtain ⟨va, vn, vc, rfl⟩ := own_isSlice hown
                  by_cases hkq : k < q.length
                  · have hlook := hmap.look (j := (k : Int)) (by unfold I64; omega)
                    have hth := thens_take (b := q.length) (k := k) (fun (c : Nat) => decide ((c : Int) ∈ M.drop p.length)) hkq
                    have hFk := hF1.out k hkq
                    by_cases hmem : (k : Int) ∈ M.drop p.length
                    · rw [if_pos hmem] at hFk
                      rw [hFk] at hlook
                      rw [if_pos (by simpa using hmem)] at hth
                      have hlen : ((List.range p.length).map (firstsOf q.length M) ++ (((List.range q.length).take k).filter fun (c : Nat) => decide ((c : Int) ∈ M.drop p.length)).map fun (c : Nat) => ((-1 : Int), (c : Int))).length ≤ 1000000000 := by
                        rw [List.length_append, List.length_map, List.length_map, List.length_range]
                        have := List.length_filter_le (fun (c : Nat) => decide ((c : Int) ∈ M.drop p.length)) ((List.range q.length).take k)
                        rw [List.length_take] at this
                        omega
                      obtain ⟨LL, hLL⟩ : ∃ LL, ((List.range p.length).map (firstsOf q.length M) ++ (((List.range q.length).take k).filter fun (c : Nat) => decide ((c : Int) ∈ M.drop p.length)).map fun (c : Nat) => ((-1 : Int), (c : Int))) = LL := ⟨_, rfl⟩
                      rw [hLL] at hlen hown
                      have HTL : Hid ((List.range p.length).map (firstsOf q.length M) ++ (((List.range q.length).take (k + 1)).filter fun (c : Nat) => decide ((c : Int) ∈ M.drop p.length)).map (fun (c : Nat) => ((-1 : Int), (c : Int))) = LL ++ [((-1 : Int), (k : Int))]) := by rw [Hid, ← hLL, hth, List.append_assoc]
                      have hOo : ∀ x, Old (MB + 1) x → x < wz.heap.size := fun x hx => by unfold Old at hx; have := hmap.lt; omega
                      clear hLL hth hmem hFk
                      go_wp2_with (at_builtin; refine wpList_push (by rfl) _ _ 23 (by rfl) elemOk_pair (O := Old (MB + 1)) (l := LL) (y := ((-1 : Int), (k : Int))) (by rfl) (by rfl) (by simp) hown rfl hOo hlen ?_; intro v' w7 hown7 hc7 _)
                      have hmap7 := hmap.keep hc7 (fun hh => own_out hown MB hh (Nat.lt_succ_self _))
                      have hw7 : Chg Never w5 w7 := hc.trans' hc7 (fun x hx hh => by have := own_out hown x hh; unfold Old at this; omega)
                      clear hc7 hown hmap hOo hlook
                      go_wp2_with fail
                      go_roundw
                      case rel => exact ⟨k + 1, by omega, by go_num, hw7, hmap7, by rw [HTL.out]; exact hown7⟩
                      case measure => simp [intOf] <;> omega
                    · rw [if_neg hmem] at hFk
                      rw [hFk] at hlook
                      rw [if_neg (by simpa using hmem), List.append_nil] at hth
                      have HTH := Lib.hid hth
                      clear hth hmem hFk
                      go_wp2_with fail
                      go_roundw
                      case rel => exact ⟨k + 1, by omega, by go_num, hc, hmap, by rw [HTH.out]; exact hown⟩
                      case measure => simp [intOf] <;> omega
                  · rw [List.take_of_length_le (by rw [List.length_range]; omega)] at hown
                    have hr : Rdv wz Never (.slice va vn vc) (rangeOut p.length q.length M) := hown.rdv.sub (fun _ _ h => h.elim)
                    have hcf := hw5.trans hc
                    clear hown hmap
                    go_wp2_with fail
                    go_ret2
                    exact ⟨_, by rw [HFZ.out, errV_zero]; rfl, hcf, by rw [HRL.out]; exact hr⟩
      · have HF2 : Hid (rangeFault p q = textsF q) := by rw [Hid, HF.out, firstOf_app, ← HTP.out, HZ1.out, if_pos rfl, ← HTQ.out]
        have HR : Hid (rangeL p q = []) := if_neg (by rw [HF2.out]; exact hz2)
        have HZ2 := Lib.hid hz2
        rw [errV_pos hz2]
        clear hz2 hr1 hr2
        go_wp2_with fail
        go_ret2
        exact ⟨_, by rw [HF2.out, errV_pos HZ2.out]; rfl, hw2, by rw [HR.out]; exact rdv_nil _ _⟩
    · have HF2 : Hid (rangeFault p q = textsF p) := by rw [Hid, HF.out, firstOf_app, ← HTP.out, if_neg hz1]
      have HR : Hid (rangeL p q = []) := if_neg (by rw [HF2.out]; exact hz1)
      have HZ1 := Lib.hid hz1
      rw [errV_pos hz1]
      clear hz1 hr1
      go_wp2_with fail
      go_ret2
      exact ⟨_, by rw [HF2.out, errV_pos HZ1.out]; rfl, hc1, by rw [HR.out]; exact rdv_nil _ _⟩
end Go.Proofs.YtgabchhplmncnaaGreatDoor
namespace Go.Proofs.YtgabchhplmncnaaGreatDoor
open Go.RowKit

def digitsB : ByteArray := ⟨#[48, 49, 50, 51, 52, 53, 54, 55, 56, 57]⟩
theorem digits_size : digitsB.size = 10 := rfl
theorem digit_fin : ∀ k : Fin 10, digitsB.extract k.1 (k.1 + 1) = toB [UInt8.ofNat (48 + k.1)] := by decide +kernel
theorem digit_slice {N : Nat} (hN : N < 10) (w : World) : (Instr.slice 9 (.string digitsB) (some (.int .i64 (N : Int))) (some (.int .i64 ((N : Int) + 1))) none).run Tryz.prog w = .ok (.string (toB [UInt8.ofNat (48 + N)])) w := by
  rw [run_slice_string_if (h := Tryz.underlying9), if_pos ⟨by omega, by rw [digits_size]; omega⟩, if_pos ⟨by omega, by omega⟩, ← digit_fin ⟨N, hN⟩]
  rfl
theorem dec_small {k : Nat} (h : k < 10) : Lib.decDigits k = [UInt8.ofNat (48 + k)] := by rw [Lib.decDigits, dif_pos h]
theorem dec_big {k : Nat} (h : ¬ k < 10) : Lib.decDigits k = Lib.decDigits (k / 10) ++ [UInt8.ofNat (48 + k % 10)] := by conv => lhs; rw [Lib.decDigits, dif_neg h]
theorem toB_cat (a b : List UInt8) : toB a ++ toB b = toB (a ++ b) := by
  apply ByteArray.ext
  apply Array.toList_inj.1
  rw [bytes_append, toB_data, toB_data, toB_data]

set_option maxHeartbeats 1000000 in
set_option maxRecDepth 100000 in
theorem dec_any (n : Nat) (hn : n < 1000000) (w : World) :
    Calls Tryz.prog 51 #[.int .i64 n] w fun e w' => e = .returned (.string (toB (Lib.decDigits n))) ∧ w = w' := by
  go_enter Tryz.func51, Tryz.ntmps51
  go_wp2_with fail
  go_loop [0, 3] (fun nv sv => ∃ (k : Nat) (acc : List UInt8), nv = .int .i64 k ∧ sv = .string (toB acc) ∧ acc.length + k ≤ n ∧ Hid (Lib.decDigits k ++ acc = Lib.decDigits n)) (fun nv _ => (intOf nv).toNat)
  case atStart => exact ⟨n, [], rfl, rfl, by simp, by rw [Hid, List.append_nil]⟩
  case round =>
    obtain ⟨k, acc, rfl, rfl, hk, hI⟩ := hrel
    by_cases hb : k < 10
    · have hrun := digit_slice (N := k) hb
      have HR : Hid (toB [UInt8.ofNat (48 + k)] ++ toB acc = toB (Lib.decDigits n)) := by rw [Hid, toB_cat, ← dec_small hb, hI.out]
      have s1 : IntKind.i64.wrap ((k : Int) + 1) = (k : Int) + 1 := IntWalk.i64_in _ (by omega)
      have z1 : ¬ (9223372036854775807 < (toB [UInt8.ofNat (48 + k)]).size + (toB acc).size) := by rw [toB_size', toB_size']; simp; omega
      unfold digitsB at hrun
      generalize toB [UInt8.ofNat (48 + k)] = D at hrun HR z1
      clear hI
      go_wp2_with fail
      go_ret
      exact ⟨by rw [← HR.out]; rfl, rfl⟩
    · have hrun := digit_slice (N := k % 10) (by omega)
      have HR : Hid (toB [UInt8.ofNat (48 + k % 10)] ++ toB acc = toB (UInt8.ofNat (48 + k % 10) :: acc)) := by rw [Hid, toB_cat]; rfl
      have hI2 : Hid (Lib.decDigits (k / 10) ++ (UInt8.ofNat (48 + k % 10) :: acc) = Lib.decDigits n) := by
        have := hI.out
        rw [dec_big hb, List.append_assoc] at this
        exact this
      have z1 : ¬ (9223372036854775807 < (toB [UInt8.ofNat (48 + k % 10)]).size + (toB acc).size) := by rw [toB_size', toB_size']; simp; omega
      have hlen : (UInt8.ofNat (48 + k % 10) :: acc).length + k / 10 ≤ n := by rw [List.length_cons]; omega
      unfold digitsB at hrun
      rw [show (((k % 10 : Nat)) : Int) = (k : Int) % 10 by omega] at hrun
      generalize toB [UInt8.ofNat (48 + k % 10)] = D at hrun HR z1
      have s1 : IntKind.i64.wrap ((k : Int) % 10 + 1) = (k : Int) % 10 + 1 := IntWalk.i64_in _ (by omega)
      clear hI
      go_wp2_with fail
      go_round
      case rel => exact ⟨k / 10, _, by go_num, by rw [HR.out], hlen, hI2⟩
      case measure => simp [intOf]; omega
set_option maxHeartbeats 1000000 in
set_option maxRecDepth 100000 in
theorem refSpan_any (a : Int) (m : Nat) (h0 : 0 ≤ a) (h1 : a < 999) (hm : m < 1000) (w : World) :
    Calls Tryz.prog 129 #[.int .i64 a, .int .i64 m] w fun e w' => e = .returned (.string (toB (spanL a m))) ∧ w = w' := by
  obtain ⟨x, rfl⟩ : ∃ x : Nat, a = x := ⟨a.toNat, by omega⟩
  have hD2 := Lib.hid (dec_any m (by omega) w)
  have hz : ∀ n, n < 1001 → (toB (Lib.decDigits n)).size ≤ 1000 := fun n hn => by
    rw [toB_size', Lib.decDigits_length]
    have : ∀ k, k < 1001 → Lib.nDigits k ≤ 1000 := by
      intro k hk
      rw [Lib.nDigits]
      split
      · omega
      · rw [Lib.nDigits]
        split
        · omega
        · rw [Lib.nDigits]
          split
          · omega
          · rw [Lib.nDigits]
            split
            · omega
            · omega
    exact this n hn
  have z2 := hz m (by omega)
  have q1 : (⟨#[44]⟩ : ByteArray).size = 1 := rfl
  by_cases hp : 0 < m
  · have hD : Calls Tryz.prog 51 #[.int .i64 ((x : Int) + 1)] w fun e w' => e = .returned (.string (toB (Lib.decDigits (x + 1)))) ∧ w = w' := by
      have := dec_any (x + 1) (by omega) w
      rw [show ((x + 1 : Nat) : Int) = (x : Int) + 1 by omega] at this
      exact this
    have hD := Lib.hid hD
    have z1 := hz (x + 1) (by omega)
    have HS : Hid (toB (Lib.decDigits (x + 1)) ++ (⟨#[44]⟩ : ByteArray) ++ toB (Lib.decDigits m) = toB (spanL (x : Int) m)) := by
      rw [Hid, show (⟨#[44]⟩ : ByteArray) = toB [44] from rfl, toB_cat, toB_cat]
      unfold spanL
      rw [if_pos hp, show (x : Int) + 1 = ((x + 1 : Nat) : Int) by omega, itoa_nat, itoa_nat]
    have s1 : IntKind.i64.wrap ((x : Int) + 1) = (x : Int) + 1 := IntWalk.i64_in _ (by omega)
    have tp : decide ((0 : Int) < (m : Int)) = true := decide_eq_true (by omega)
    generalize toB (Lib.decDigits (x + 1)) = X at hD z1 HS
    generalize toB (Lib.decDigits m) = Y at hD2 z2 HS
    have n1 : ¬ (9223372036854775807 < X.size + (⟨#[44]⟩ : ByteArray).size) := by rw [q1]; omega
    have n2 : ¬ (9223372036854775807 < (X ++ (⟨#[44]⟩ : ByteArray)).size + Y.size) := by rw [ByteArray.size_append, q1]; omega
    clear hz
    go_enter Tryz.func129, Tryz.ntmps129
    go_wp2_with fail
    refine hD.out.mono ?_
    rintro e w1 ⟨rfl, rfl⟩
    go_wp2_with fail
    refine hD2.out.mono ?_
    rintro e w1 ⟨rfl, rfl⟩
    go_wp2_with fail
    go_ret
    exact ⟨by rw [← HS.out]; rfl, rfl⟩
  · have hD := Lib.hid (dec_any x (by omega) w)
    have z1 := hz x (by omega)
    have HS : Hid (toB (Lib.decDigits x) ++ (⟨#[44]⟩ : ByteArray) ++ toB (Lib.decDigits m) = toB (spanL (x : Int) m)) := by
      rw [Hid, show (⟨#[44]⟩ : ByteArray) = toB [44] from rfl, toB_cat, toB_cat]
      unfold spanL
      rw [if_neg hp, itoa_nat, itoa_nat]
    have tp : decide ((0 : Int) < (m : Int)) = false := decide_eq_false (by omega)
    generalize toB (Lib.decDigits x) = X at hD z1 HS
    generalize toB (Lib.decDigits m) = Y at hD2 z2 HS
    have n1 : ¬ (9223372036854775807 < X.size + (⟨#[44]⟩ : ByteArray).size) := by rw [q1]; omega
    have n2 : ¬ (9223372036854775807 < (X ++ (⟨#[44]⟩ : ByteArray)).size + Y.size) := by rw [ByteArray.size_append, q1]; omega
    clear hz
    go_enter Tryz.func129, Tryz.ntmps129
    go_wp2_with fail
    refine hD.out.mono ?_
    rintro e w1 ⟨rfl, rfl⟩
    go_wp2_with fail
    refine hD2.out.mono ?_
    rintro e w1 ⟨rfl, rfl⟩
    go_wp2_with fail
    go_ret
    exact ⟨by rw [← HS.out]; rfl, rfl⟩
end Go.Proofs.YtgabchhplmncnaaGreatDoor
namespace Go.Proofs.YtgabchhplmncnaaGreatDoor
open Go.RowKit

theorem elems_byte {w : World} {O : Nat → Prop} {a : Option Addr} {l : List UInt8} (h : Elems w O a l) {i : Nat} {x : UInt8} (hx : l[i]? = some x) :
    ∃ b off, a = some ⟨b, off, none⟩ ∧ ¬ O b ∧ b < w.heap.size ∧ w.cell? ⟨b, off + i, none⟩ = some (.int .u8 x.toNat) := by
  obtain ⟨b, off, es, ha, hb, hc, rfl⟩ := h i x hx
  refine ⟨b, off, ha, hb, hc.lt (by simp), ?_⟩
  have := hc 0 _ rfl
  rw [show off + i * Dat.n UInt8 + 0 = off + i by show off + i * 1 + 0 = _; omega] at this
  exact this
/-- 'string(b)' -/
theorem conv_str {w : World} {O : Nat → Prop} {v : Value} {l : List UInt8} (h : Rdv w O v l) : (convert 38 9 v).run Tryz.prog w = .ok (.string (toB l)) w := by
  obtain ⟨a, cap, rfl, h1, h2, h3⟩ := rdv_slice h
  by_cases h0 : l = []
  · subst h0
    cases a with
    | none => exact run_convert_bytes_nil w _ 5 Tryz.underlying38 Tryz.underlying5 _ cap _ Tryz.underlying9
    | some a => exact run_convert_bytes_back w _ _ 5 a cap [] Tryz.underlying38 Tryz.underlying5 Tryz.underlying9 (fun j hj => absurd hj (Nat.not_lt_zero j))
  · have hp : 0 < l.length := List.length_pos_iff.2 h0
    obtain ⟨b, off, rfl, _⟩ := elems_byte h3 (i := 0) (x := l[0]) (by simp [hp])
    refine run_convert_bytes_back w _ _ 5 ⟨b, off, none⟩ cap l Tryz.underlying38 Tryz.underlying5 Tryz.underlying9 (fun j hj => ?_)
    obtain ⟨b', off', e, _, _, hc⟩ := elems_byte h3 (i := j) (x := l[j]) (by simp [hj])
    simp only [Option.some.injEq, Addr.mk.injEq, and_true] at e
    obtain ⟨rfl, rfl⟩ := e
    rw [show (⟨b, off, none⟩ : Addr).add j = ⟨b, off + j, none⟩ by unfold Addr.add; split <;> simp_all]
    exact hc
end Go.Proofs.YtgabchhplmncnaaGreatDoor
namespace Go.Proofs.YtgabchhplmncnaaGreatDoor
open Go.RowKit

theorem tkeep {w2 wr wq : World} {p q r : Addr} {a b c : Value} (h : Chg Never w2 wr ∧ wr.cell? p = some a ∧ wr.cell? q = some b ∧ wr.cell? r = some c) (k : Chg Never wr wq) : Chg Never w2 wq ∧ wq.cell? p = some a ∧ wq.cell? q = some b ∧ wq.cell? r = some c :=
  ⟨h.1.trans k, k.cellNever h.2.1, k.cellNever h.2.2.1, k.cellNever h.2.2.2⟩
set_option maxHeartbeats 2000000 in
set_option maxRecDepth 100000 in
theorem refHunksText_any (l : List Hunk) (v : Value) (w : World) (h : Rdv w Never v l) (hz : (hunksFault l).2 = 0) :
    Calls Tryz.prog 88 #[v] w fun e w' => e = .returned (.string (toB (textU l))) ∧ Chg Never w w' := by
  obtain ⟨a, cap, rfl, h1, h2, h3⟩ := rdv_slice h
  unfold maxLen at h2
  have hTL := Lib.hid (hunks_ok hz).2.2
  have hH := Lib.hid (hunks_each hz)
  clear hz
  go_enter Tryz.func88, Tryz.ntmps88
  go_wp2_with fail
  go_loopw [3, 4] (fun sv i wr => ∃ k : Nat, k ≤ l.length ∧ i = .int .i64 k ∧ sv = .string (toB (textU (l.take k))) ∧ Chg Never w wr) (fun _ i _ => l.length - (intOf i).toNat)
  case atStart => exact ⟨0, Nat.zero_le _, rfl, rfl, Chg.refl _ _⟩
  case round =>
    obtain ⟨k, hk, rfl, rfl, hc⟩ := hrel
    rename World => wr
    by_cases hlt : k < l.length
    · obtain ⟨x, hx⟩ : ∃ x, l[k]? = some x := ⟨l[k], by simp [hlt]⟩
      obtain ⟨b', off, mv, rfl, hnb, -, c0, c1, c2, hmv⟩ := elems_hunk h3 hx
      obtain ⟨e1, e2, e3, e4, e5, e6, e7⟩ := hH.out x (List.mem_of_getElem? hx)
      have E1 := Lib.hid e1
      have HT := Lib.hid (textU_take hx)
      have hTk := @textU_mono l k
      have hTLo := hTL.out
      obtain ⟨ma, mc, rfl, -, -, hme⟩ := rdv_slice hmv
      have c0 := hc.cellNever c0
      have c1 := hc.cellNever c1
      have c2 := hc.cellNever c2
      have hmr : Rdv wr Never (.slice ma x.marks.length mc) x.marks := hmv.never hc
      have hA : Chg Never wr (wr.alloc (.cells #[.int .i64 x.old, .int .i64 x.new, .slice ma x.marks.length mc] 130)) := (Chg.refl Never wr).alloc _
      have hbox := Blk3.new wr 130 (.int .i64 x.old) (.int .i64 x.new) (.slice ma x.marks.length mc)
      have hmA := hmr.never hA
      have hzk : (toB (textU (l.take k))).size ≤ 400000 := by rw [toB_size']; omega
      clear hx h3 h hmr hmv e1
      go_wp2_with fail
      clear c0 c1 c2
      generalize wr.alloc (.cells #[.int .i64 x.old, .int .i64 x.new, .slice ma x.marks.length mc] 130) = w2 at hA hbox hmA ⊢
      obtain ⟨g0, g1, g2⟩ := hbox.cell
      obtain ⟨S, hS⟩ : ∃ S, toB (textU (l.take k)) = S := ⟨_, rfl⟩
      rw [hS] at hzk ⊢
      have HK := Lib.hid hS
      clear hS
      have hl1 : (spanL x.old (oldN x.marks)).length ≤ 7 := span_len e2 (by omega) (by omega)
      have hl2 : (spanL x.new (newN x.marks)).length ≤ 7 := span_len e4 (by omega) (by omega)
      have FS1 : ∀ wx, Calls Tryz.prog 129 #[.int .i64 x.old, .int .i64 ((those x.marks 43).length : Nat)] wx fun e w' => e = .returned (.string (toB (spanL x.old (oldN x.marks)))) ∧ wx = w' := fun wx => refSpan_any _ _ e2 (by omega) (by show oldN x.marks < 1000; omega) wx
      have FS2 : ∀ wx, Calls Tryz.prog 129 #[.int .i64 x.new, .int .i64 ((those x.marks 45).length : Nat)] wx fun e w' => e = .returned (.string (toB (spanL x.new (newN x.marks)))) ∧ wx = w' := fun wx => refSpan_any _ _ e4 (by omega) (by show newN x.marks < 1000; omega) wx
      obtain ⟨S1, hS1⟩ : ∃ S1, toB (spanL x.old (oldN x.marks)) = S1 := ⟨_, rfl⟩
      obtain ⟨S2, hS2⟩ : ∃ S2, toB (spanL x.new (newN x.marks)) = S2 := ⟨_, rfl⟩
      have hz1 : S1.size ≤ 7 := by rw [← hS1, toB_size']; exact hl1
      have hz2 : S2.size ≤ 7 := by rw [← hS2, toB_size']; exact hl2
      rw [hS1] at FS1
      rw [hS2] at FS2
      have HS1 := Lib.hid hS1
      have HS2 := Lib.hid hS2
      clear hS1 hS2
      have n1 : ¬ (9223372036854775807 < S.size + 4) := by omega
      have n2 : ¬ (9223372036854775807 < S.size + 4 + S1.size) := by omega
      have n3 : ¬ (9223372036854775807 < S.size + 4 + S1.size + 2) := by omega
      have n4 : ¬ (9223372036854775807 < S.size + 4 + S1.size + 2 + S2.size) := by omega
      have n5 : ¬ (9223372036854775807 < S.size + 4 + S1.size + 2 + S2.size + 4) := by omega
      refine wp_region_held_drew (S := fun w' => Chg Never w2 w' ∧ w'.cell? ⟨wr.heap.size, 0, none⟩ = some (.int .i64 x.old) ∧ w'.cell? ⟨wr.heap.size, 1, none⟩ = some (.int .i64 x.new) ∧ w'.cell? ⟨wr.heap.size, 2, none⟩ = some (.slice ma x.marks.length mc)) (by kernel_rfl) ⟨(Chg.refl Never w2).drew, g0, g1, g2⟩ (fun hH => ?_)
      refine' wpAnyH_take (i := 0) ?hi0 (by kernel_rfl) (by kernel_rfl) (by kernel_rfl) ?hQ0 (Or.inl ⟨?hw0, ?hy0⟩) (by assumption) ?_
      case hi0 => (simp only [List.getElem?_toArray, List.getElem?_cons_zero]; rfl)
      case hQ0 => exact fun _ _ _ h => h
      case hw0 => rfl
      case hy0 => (intro w' hSw; (try dsimp only at hSw); go_simp; all_goals with_reducible rfl)
      try simp only [Act.put, List.setIfInBounds_toArray, List.set_cons_zero, List.set_cons_succ]
      refine' wpAnyH_take (i := 1) ?hi1 (by kernel_rfl) (by kernel_rfl) (by kernel_rfl) ?hQ1 (Or.inl ⟨?hw1, ?hy1⟩) (by assumption) ?_
      case hi1 => (simp only [List.getElem?_toArray, List.getElem?_cons_succ, List.getElem?_cons_zero]; rfl)
      case hQ1 => exact fun _ _ _ h => h
      case hw1 => rfl
      case hy1 => (intro w' hSw; (try dsimp only at hSw); go_simp; all_goals with_reducible rfl)
      try simp only [Act.put, List.setIfInBounds_toArray, List.set_cons_zero, List.set_cons_succ]
      refine' wpAnyH_take (i := 2) ?hi2 (by kernel_rfl) (by kernel_rfl) (by kernel_rfl) ?hQ2 (Or.inl ⟨?hw2, ?hy2⟩) (by assumption) ?_
      case hi2 => (simp only [List.getElem?_toArray, List.getElem?_cons_succ, List.getElem?_cons_zero]; rfl)
      case hQ2 => exact fun _ _ _ h => h
      case hw2 => rfl
      case hy2 => (intro w' hSw; (try dsimp only at hSw); go_simp; all_goals with_reducible rfl)
      try simp only [Act.put, List.setIfInBounds_toArray, List.set_cons_zero, List.set_cons_succ]
      refine' wpAnyH_take (i := 3) ?hi3 (by kernel_rfl) (by kernel_rfl) (by kernel_rfl) ?hQ3 (Or.inl ⟨?hw3, ?hy3⟩) (by assumption) ?_
      case hi3 => (simp only [List.getElem?_toArray, List.getElem?_cons_succ, List.getElem?_cons_zero]; rfl)
      case hQ3 => exact fun _ _ _ h => h
      case hw3 => rfl
      case hy3 => (intro w' hSw; (try dsimp only at hSw); go_simp; all_goals with_reducible rfl)
      try simp only [Act.put, List.setIfInBounds_toArray, List.set_cons_zero, List.set_cons_succ]
      refine' wpAnyH_take (i := 4) ?hi4 (by kernel_rfl) (by kernel_rfl) (by kernel_rfl) ?hQ4 (Or.inl ⟨?hw4, ?hy4⟩) (by assumption) ?_
      case hi4 => (simp only [List.getElem?_toArray, List.getElem?_cons_succ, List.getElem?_cons_zero]; rfl)
      case hQ4 => exact fun _ _ _ h => h
      case hw4 => rfl
      case hy4 => (intro w' hSw; (try dsimp only at hSw); go_simp; all_goals with_reducible rfl)
      try simp only [Act.put, List.setIfInBounds_toArray, List.set_cons_zero, List.set_cons_succ]
      refine' wpAnyH_take (i := 5) ?hi5 (by kernel_rfl) (by kernel_rfl) (by kernel_rfl) ?hQ5 (Or.inl ⟨?hw5, ?hy5⟩) (by assumption) ?_
      case hi5 => (simp only [List.getElem?_toArray, List.getElem?_cons_succ, List.getElem?_cons_zero]; rfl)
      case hQ5 => exact fun _ _ _ h => h
      case hw5 => rfl
      case hy5 => (intro w' hSw; (try dsimp only at hSw); go_simp; all_goals with_reducible rfl)
      try simp only [Act.put, List.setIfInBounds_toArray, List.set_cons_zero, List.set_cons_succ]
      refine' wpAnyH_take (i := 11) ?hi11 (by kernel_rfl) (by kernel_rfl) (by kernel_rfl) ?hQ11 (Or.inl ⟨?hw11, ?hy11⟩) (by assumption) ?_
      case hi11 => (simp only [List.getElem?_toArray, List.getElem?_cons_succ, List.getElem?_cons_zero]; rfl)
      case hQ11 => exact fun _ _ _ h => h
      case hw11 => rfl
      case hy11 => (intro w' hSw; (try dsimp only at hSw); go_simp; all_goals with_reducible rfl)
      try simp only [Act.put, List.setIfInBounds_toArray, List.set_cons_zero, List.set_cons_succ]
      refine' wpAnyH_take (i := 12) ?hi12 (by kernel_rfl) (by kernel_rfl) (by kernel_rfl) ?hQ12 (Or.inl ⟨?hw12, ?hy12⟩) (by assumption) ?_
      case hi12 => (simp only [List.getElem?_toArray, List.getElem?_cons_succ, List.getElem?_cons_zero]; rfl)
      case hQ12 => exact fun _ _ _ h => h
      case hw12 => rfl
      case hy12 => (intro w' hSw; (try dsimp only at hSw); go_simp; all_goals with_reducible rfl)
      try simp only [Act.put, List.setIfInBounds_toArray, List.set_cons_zero, List.set_cons_succ]
      refine' wpAnyH_take (i := 13) ?hi13 (by kernel_rfl) (by kernel_rfl) (by kernel_rfl) ?hQ13 (Or.inl ⟨?hw13, ?hy13⟩) (by assumption) ?_
      case hi13 => (simp only [List.getElem?_toArray, List.getElem?_cons_succ, List.getElem?_cons_zero]; rfl)
      case hQ13 => exact fun _ _ _ h => h
      case hw13 => rfl
      case hy13 => (intro w' hSw; (try dsimp only at hSw); go_simp; all_goals with_reducible rfl)
      try simp only [Act.put, List.setIfInBounds_toArray, List.set_cons_zero, List.set_cons_succ]
      refine' wpAnyH_take (i := 14) ?hi14 (by kernel_rfl) (by kernel_rfl) (by kernel_rfl) ?hQ14 (Or.inl ⟨?hw14, ?hy14⟩) (by assumption) ?_
      case hi14 => (simp only [List.getElem?_toArray, List.getElem?_cons_succ, List.getElem?_cons_zero]; rfl)
      case hQ14 => exact fun _ _ _ h => h
      case hw14 => rfl
      case hy14 => (intro w' hSw; (try dsimp only at hSw); go_simp; all_goals with_reducible rfl)
      try simp only [Act.put, List.setIfInBounds_toArray, List.set_cons_zero, List.set_cons_succ]
      refine wpAnyH_ready (rs := [6]) (by kernel_rfl) (by simp) ?_
      refine AllReadyH.cons rfl (fun K hK => ?_) AllReadyH.nil
      go_simp
      (go_at_call 86; refine (refOld_any x.marks _ _ (hmA.never (And.left (by assumption))) E1.out).mono ?_; rintro e wq ⟨rq, rfl, hcq, hrq⟩; obtain ⟨qa, qc, rfl, _, _, _⟩ := rdv_slice hrq; have hS2 := tkeep (by assumption) hcq)
      try go_wp2_with fail
      refine hK.out _ _ ?_ (fun hH => ?_)
      · assumption
      clear hK K
      try simp only [Act.put, List.setIfInBounds_toArray, List.set_cons_zero, List.set_cons_succ]
      refine' wpAnyH_take (i := 7) ?hi7 (by kernel_rfl) (by kernel_rfl) (by kernel_rfl) ?hQ7 (Or.inl ⟨?hw7, ?hy7⟩) (by assumption) ?_
      case hi7 => (simp only [List.getElem?_toArray, List.getElem?_cons_succ, List.getElem?_cons_zero]; rfl)
      case hQ7 => exact fun _ _ _ h => h
      case hw7 => rfl
      case hy7 => (intro w' hSw; (try dsimp only at hSw); go_simp; all_goals with_reducible rfl)
      try simp only [Act.put, List.setIfInBounds_toArray, List.set_cons_zero, List.set_cons_succ]
      refine wpAnyH_ready (rs := [8]) (by kernel_rfl) (by simp) ?_
      refine AllReadyH.cons rfl (fun K hK => ?_) AllReadyH.nil
      go_simp
      (go_at_call 129; refine (FS1 _).mono ?_; rintro e wq ⟨rfl, rfl⟩)
      try go_wp2_with fail
      refine hK.out _ _ ?_ (fun hH => ?_)
      · assumption
      clear hK K
      try simp only [Act.put, List.setIfInBounds_toArray, List.set_cons_zero, List.set_cons_succ]
      refine' wpAnyH_take (i := 9) ?hi9 (by kernel_rfl) (by kernel_rfl) (by kernel_rfl) ?hQ9 (Or.inl ⟨?hw9, ?hy9⟩) (by assumption) ?_
      case hi9 => (simp only [List.getElem?_toArray, List.getElem?_cons_succ, List.getElem?_cons_zero]; rfl)
      case hQ9 => exact fun _ _ _ h => h
      case hw9 => rfl
      case hy9 => (intro w' hSw; (try dsimp only at hSw); go_simp; all_goals with_reducible rfl)
      try simp only [Act.put, List.setIfInBounds_toArray, List.set_cons_zero, List.set_cons_succ]
      refine' wpAnyH_take (i := 10) ?hi10 (by kernel_rfl) (by kernel_rfl) (by kernel_rfl) ?hQ10 (Or.inl ⟨?hw10, ?hy10⟩) (by assumption) ?_
      case hi10 => (simp only [List.getElem?_toArray, List.getElem?_cons_succ, List.getElem?_cons_zero]; rfl)
      case hQ10 => exact fun _ _ _ h => h
      case hw10 => rfl
      case hy10 => (intro w' hSw; (try dsimp only at hSw); go_simp; all_goals with_reducible rfl)
      try simp only [Act.put, List.setIfInBounds_toArray, List.set_cons_zero, List.set_cons_succ]
      refine wpAnyH_ready (rs := [15]) (by kernel_rfl) (by simp) ?_
      refine AllReadyH.cons rfl (fun K hK => ?_) AllReadyH.nil
      go_simp
      (go_at_call 87; refine (refNew_any x.marks _ _ (hmA.never (And.left (by assumption))) E1.out).mono ?_; rintro e wq ⟨rq, rfl, hcq, hrq⟩; obtain ⟨qa, qc, rfl, _, _, _⟩ := rdv_slice hrq; have hS2 := tkeep (by assumption) hcq)
      try go_wp2_with fail
      refine hK.out _ _ ?_ (fun hH => ?_)
      · assumption
      clear hK K
      try simp only [Act.put, List.setIfInBounds_toArray, List.set_cons_zero, List.set_cons_succ]
      refine' wpAnyH_take (i := 16) ?hi16 (by kernel_rfl) (by kernel_rfl) (by kernel_rfl) ?hQ16 (Or.inl ⟨?hw16, ?hy16⟩) (by assumption) ?_
      case hi16 => (simp only [List.getElem?_toArray, List.getElem?_cons_succ, List.getElem?_cons_zero]; rfl)
      case hQ16 => exact fun _ _ _ h => h
      case hw16 => rfl
      case hy16 => (intro w' hSw; (try dsimp only at hSw); go_simp; all_goals with_reducible rfl)
      try simp only [Act.put, List.setIfInBounds_toArray, List.set_cons_zero, List.set_cons_succ]
      refine wpAnyH_ready (rs := [17]) (by kernel_rfl) (by simp) ?_
      refine AllReadyH.cons rfl (fun K hK => ?_) AllReadyH.nil
      go_simp
      (go_at_call 129; refine (FS2 _).mono ?_; rintro e wq ⟨rfl, rfl⟩)
      try go_wp2_with fail
      refine hK.out _ _ ?_ (fun hH => ?_)
      · assumption
      clear hK K
      try simp only [Act.put, List.setIfInBounds_toArray, List.set_cons_zero, List.set_cons_succ]
      refine' wpAnyH_take (i := 18) ?hi18 (by kernel_rfl) (by kernel_rfl) (by kernel_rfl) ?hQ18 (Or.inl ⟨?hw18, ?hy18⟩) (by assumption) ?_
      case hi18 => (simp only [List.getElem?_toArray, List.getElem?_cons_succ, List.getElem?_cons_zero]; rfl)
      case hQ18 => exact fun _ _ _ h => h
      case hw18 => rfl
      case hy18 => (intro w' hSw; (try dsimp only at hSw); go_simp; all_goals with_reducible rfl)
      try simp only [Act.put, List.setIfInBounds_toArray, List.set_cons_zero, List.set_cons_succ]
      refine' wpAnyH_take (i := 19) ?hi19 (by kernel_rfl) (by kernel_rfl) (by kernel_rfl) ?hQ19 (Or.inl ⟨?hw19, ?hy19⟩) (by assumption) ?_
      case hi19 => (simp only [List.getElem?_toArray, List.getElem?_cons_succ, List.getElem?_cons_zero]; rfl)
      case hQ19 => exact fun _ _ _ h => h
      case hw19 => rfl
      case hy19 => (intro w' hSw; (try dsimp only at hSw); go_simp; all_goals with_reducible rfl)
      try simp only [Act.put, List.setIfInBounds_toArray, List.set_cons_zero, List.set_cons_succ]
      refine' wpAnyH_take (i := 20) ?hi20 (by kernel_rfl) (by kernel_rfl) (by kernel_rfl) ?hQ20 (Or.inl ⟨?hw20, ?hy20⟩) (by assumption) ?_
      case hi20 => (simp only [List.getElem?_toArray, List.getElem?_cons_succ, List.getElem?_cons_zero]; rfl)
      case hQ20 => exact fun _ _ _ h => h
      case hw20 => rfl
      case hy20 => (intro w' hSw; (try dsimp only at hSw); go_simp; all_goals with_reducible rfl)
      try simp only [Act.put, List.setIfInBounds_toArray, List.set_cons_zero, List.set_cons_succ]
      refine wpAnyH_done (by kernel_rfl) ?_ _
      rename (Chg Never w2 _ ∧ _) => hF
      obtain ⟨hw3, k0, k1, k2⟩ := hF
      clear g0 g1 g2 n1 n2 n3 n4 n5
      rename World => w3
      go_wp2_with fail
      obtain ⟨T, hT⟩ : ∃ T, S ++ (⟨#[64, 64, 32, 45]⟩ : ByteArray) ++ S1 ++ ⟨#[32, 43]⟩ ++ S2 ++ ⟨#[32, 64, 64, 10]⟩ = T := ⟨_, rfl⟩
      have hTz : T.size ≤ 400100 := by rw [← hT, ByteArray.size_append, ByteArray.size_append, ByteArray.size_append, ByteArray.size_append, ByteArray.size_append]; show S.size + 4 + S1.size + 2 + S2.size + 4 ≤ _; omega
      have HT2 : Hid (T = toB (textU (l.take k) ++ (headL x.old (oldN x.marks) x.new (newN x.marks) ++ [10]))) := by
        rw [Hid, ← hT, toB_append, ← head_row, HS1.out, HS2.out, HK.out]
        simp only [ByteArray.append_assoc]; rfl
      rw [hT]
      have hmw := hmA.never hw3
      have HMK := Lib.hid (marks_ok E1.out)
      have hml := scriptFault_len E1.out
      obtain ⟨_, _, hq, -, -, hme3⟩ := rdv_slice hmw
      injection hq with hq1 _ hq2
      subst hq1 hq2
      have HUL := Lib.hid (hunkR_head x)
      have hcw3 := (hc.trans hA).trans hw3
      clear hT hmw hmA hw3 k0 k1 hA hbox hme hc FS1 FS2 hrq hcq hS2
      go_loopw [3, 6] (fun sv i wi => ∃ (q : Nat) (U : ByteArray), q ≤ x.marks.length ∧ i = .int .i64 q ∧ sv = .string U ∧ U.size ≤ 420000 ∧ Hid (U = T ++ toB (textL ((x.marks.take q).map markL))) ∧ Chg Never w3 wi) (fun _ i _ => x.marks.length - (intOf i).toNat)
      case atStart => exact ⟨0, T, Nat.zero_le _, rfl, rfl, by omega, by rw [Hid]; show T = T ++ ByteArray.empty; exact ByteArray.append_empty.symm, Chg.refl _ _⟩
      case round =>
        obtain ⟨q, U, hq, rfl, rfl, hUz, hU, hci⟩ := hrel
        rename World => wi
        have k2 := hci.cellNever k2
        by_cases hql : q < x.marks.length
        · obtain ⟨y, hy⟩ : ∃ y, x.marks[q]? = some y := ⟨x.marks[q], by simp [hql]⟩
          obtain ⟨yb, yoff, rfl, -, -, d0, d1, -, -, hys⟩ := elems_mark hme3 hy
          obtain ⟨m1, m2, m3⟩ := mark_ok (HMK.out y (List.mem_of_getElem? hy))
          have HMT := Lib.hid (textM_take hy)
          have hsg : y.sign = ((signOf y).toNat : Int) := by unfold signOf; rcases m1 with e | e | e <;> rw [e] <;> rfl
          have d0 := hci.cellNever d0
          have d1 := hci.cellNever d1
          rw [hsg] at d0
          obtain ⟨c, hce⟩ : ∃ c, signOf y = c := ⟨_, rfl⟩
          rw [hce] at d0 HMT
          have hmt := marks_take_len (q := q + 1) HMK.out hml
          have hU2 : Hid (U ++ toB [c] ++ y.text ++ ⟨#[10]⟩ = T ++ toB (textL ((x.marks.take (q + 1)).map markL))) := by
            rw [Hid, hU.out, HMT.out]
            apply ByteArray.ext
            apply Array.toList_inj.1
            simp only [bytes_append, toB_data]
            simp
          have hzU : (T ++ toB (textL ((x.marks.take (q + 1)).map markL))).size ≤ 420000 := by rw [ByteArray.size_append, toB_size']; omega
          have hyz : y.text.size ≤ 100 := by omega
          have hcc : (toB [c]).size = 1 := rfl
          have n1 : ¬ (9223372036854775807 < U.size + 1) := by omega
          have n2 : ¬ (9223372036854775807 < U.size + 1 + y.text.size) := by omega
          have n3 : ¬ (9223372036854775807 < U.size + 1 + y.text.size + 1) := by omega
          have n0 := heap_alloc_new wi (.cells #[.int .u8 c.toNat] 5)
          have hcv : (convert 38 9 (.slice (some ⟨wi.heap.size, 0, none⟩) 1 1)).run Tryz.prog (wi.alloc (.cells #[.int .u8 c.toNat] 5)).drew = .ok (.string (toB [c])) (wi.alloc (.cells #[.int .u8 c.toNat] 5)).drew := by
            have hrl : Rdv (wi.alloc (.cells #[.int .u8 c.toNat] 5)) Never (.slice (some ⟨wi.heap.size, 0, none⟩) 1 1) [c] := rdv_lit (cs := [.int .u8 c.toNat]) n0 rfl (by decide) ⟨rfl, trivial⟩
            exact conv_str (hrl.never (Chg.refl Never _).drew)
          clear n0
          clear hy hce hsg hme3 HMT hmt
          go_wp2_with fail
          refine wp_region_held_drew (S := fun w' => Chg Never wi w' ∧ w'.cell? ⟨wr.heap.size, 2, none⟩ = some (.slice (some ⟨yb, yoff, none⟩) x.marks.length mc) ∧ w'.cell? ⟨yb, yoff + q * 2, none⟩ = some (.int .u8 c.toNat) ∧ w'.cell? ⟨yb, yoff + q * 2 + 1, none⟩ = some (.string y.text)) (by kernel_rfl) ⟨(Chg.refl Never wi).drew, k2, d0, d1⟩ (fun hH => ?_)
          refine' wpAnyH_take (i := 0) ?hi0 (by kernel_rfl) (by kernel_rfl) (by kernel_rfl) ?hQ0 (Or.inl ⟨?hw0, ?hy0⟩) (by assumption) ?_
          case hi0 => (simp only [List.getElem?_toArray, List.getElem?_cons_zero]; rfl)
          case hQ0 => exact fun _ _ _ h => h
          case hw0 => rfl
          case hy0 => (intro w' hSw; (try dsimp only at hSw); go_simp; all_goals with_reducible rfl)
          try simp only [Act.put, List.setIfInBounds_toArray, List.set_cons_zero, List.set_cons_succ]
          refine' wpAnyH_take (i := 1) ?hi1 (by kernel_rfl) (by kernel_rfl) (by kernel_rfl) ?hQ1 (Or.inl ⟨?hw1, ?hy1⟩) (by assumption) ?_
          case hi1 => (simp only [List.getElem?_toArray, List.getElem?_cons_succ, List.getElem?_cons_zero]; rfl)
          case hQ1 => exact fun _ _ _ h => h
          case hw1 => rfl
          case hy1 => (intro w' hSw; (try dsimp only at hSw); go_simp; all_goals with_reducible rfl)
          try simp only [Act.put, List.setIfInBounds_toArray, List.set_cons_zero, List.set_cons_succ]
          refine' wpAnyH_take (i := 2) ?hi2 (by kernel_rfl) (by kernel_rfl) (by kernel_rfl) ?hQ2 (Or.inl ⟨?hw2, ?hy2⟩) (by assumption) ?_
          case hi2 => (simp only [List.getElem?_toArray, List.getElem?_cons_succ, List.getElem?_cons_zero]; rfl)
          case hQ2 => exact fun _ _ _ h => h
          case hw2 => rfl
          case hy2 => (intro w' hSw; (try dsimp only at hSw); go_simp; all_goals with_reducible rfl)
          try simp only [Act.put, List.setIfInBounds_toArray, List.set_cons_zero, List.set_cons_succ]
          refine' wpAnyH_take (i := 3) ?hi3 (by kernel_rfl) (by kernel_rfl) (by kernel_rfl) ?hQ3 (Or.inl ⟨?hw3, ?hy3⟩) (by assumption) ?_
          case hi3 => (simp only [List.getElem?_toArray, List.getElem?_cons_succ, List.getElem?_cons_zero]; rfl)
          case hQ3 => exact fun _ _ _ h => h
          case hw3 => rfl
          case hy3 => (intro w' hSw; (try dsimp only at hSw); go_simp; all_goals with_reducible rfl)
          try simp only [Act.put, List.setIfInBounds_toArray, List.set_cons_zero, List.set_cons_succ]
          refine' wpAnyH_take (i := 4) ?hi4 (by kernel_rfl) (by kernel_rfl) (by kernel_rfl) ?hQ4 (Or.inl ⟨?hw4, ?hy4⟩) (by assumption) ?_
          case hi4 => (simp only [List.getElem?_toArray, List.getElem?_cons_succ, List.getElem?_cons_zero]; rfl)
          case hQ4 => exact fun _ _ _ h => h
          case hw4 => rfl
          case hy4 => (intro w' hSw; (try dsimp only at hSw); go_simp; all_goals with_reducible rfl)
          try simp only [Act.put, List.setIfInBounds_toArray, List.set_cons_zero, List.set_cons_succ]
          refine' wpAnyH_take (i := 5) ?hi5 (by kernel_rfl) (by kernel_rfl) (by kernel_rfl) ?hQ5 (Or.inl ⟨?hw5, ?hy5⟩) (by assumption) ?_
          case hi5 => (simp only [List.getElem?_toArray, List.getElem?_cons_succ, List.getElem?_cons_zero]; rfl)
          case hQ5 => exact fun _ _ _ h => h
          case hw5 => rfl
          case hy5 => (intro w' hSw; (try dsimp only at hSw); go_simp; all_goals with_reducible rfl)
          try simp only [Act.put, List.setIfInBounds_toArray, List.set_cons_zero, List.set_cons_succ]
          refine' wpAnyH_take (i := 6) ?hi6 (by kernel_rfl) (by kernel_rfl) (by kernel_rfl) ?hQ6 (Or.inl ⟨?hw6, ?hy6⟩) (by assumption) ?_
          case hi6 => (simp only [List.getElem?_toArray, List.getElem?_cons_succ, List.getElem?_cons_zero]; rfl)
          case hQ6 => exact fun _ _ _ h => h
          case hw6 => rfl
          case hy6 => (intro w' hSw; (try dsimp only at hSw); go_simp; all_goals with_reducible rfl)
          try simp only [Act.put, List.setIfInBounds_toArray, List.set_cons_zero, List.set_cons_succ]
          refine' wpAnyH_take (i := 10) ?hi10 (by kernel_rfl) (by kernel_rfl) (by kernel_rfl) ?hQ10 (Or.inl ⟨?hw10, ?hy10⟩) (by assumption) ?_
          case hi10 => (simp only [List.getElem?_toArray, List.getElem?_cons_succ, List.getElem?_cons_zero]; rfl)
          case hQ10 => exact fun _ _ _ h => h
          case hw10 => rfl
          case hy10 => (intro w' hSw; (try dsimp only at hSw); go_simp; all_goals with_reducible rfl)
          try simp only [Act.put, List.setIfInBounds_toArray, List.set_cons_zero, List.set_cons_succ]
          refine' wpAnyH_take (i := 11) ?hi11 (by kernel_rfl) (by kernel_rfl) (by kernel_rfl) ?hQ11 (Or.inl ⟨?hw11, ?hy11⟩) (by assumption) ?_
          case hi11 => (simp only [List.getElem?_toArray, List.getElem?_cons_succ, List.getElem?_cons_zero]; rfl)
          case hQ11 => exact fun _ _ _ h => h
          case hw11 => rfl
          case hy11 => (intro w' hSw; (try dsimp only at hSw); go_simp; all_goals with_reducible rfl)
          try simp only [Act.put, List.setIfInBounds_toArray, List.set_cons_zero, List.set_cons_succ]
          refine' wpAnyH_take (i := 12) ?hi12 (by kernel_rfl) (by kernel_rfl) (by kernel_rfl) ?hQ12 (Or.inl ⟨?hw12, ?hy12⟩) (by assumption) ?_
          case hi12 => (simp only [List.getElem?_toArray, List.getElem?_cons_succ, List.getElem?_cons_zero]; rfl)
          case hQ12 => exact fun _ _ _ h => h
          case hw12 => rfl
          case hy12 => (intro w' hSw; (try dsimp only at hSw); go_simp; all_goals with_reducible rfl)
          try simp only [Act.put, List.setIfInBounds_toArray, List.set_cons_zero, List.set_cons_succ]
          refine' wpAnyH_take (i := 13) ?hi13 (by kernel_rfl) (by kernel_rfl) (by kernel_rfl) ?hQ13 (Or.inl ⟨?hw13, ?hy13⟩) (by assumption) ?_
          case hi13 => (simp only [List.getElem?_toArray, List.getElem?_cons_succ, List.getElem?_cons_zero]; rfl)
          case hQ13 => exact fun _ _ _ h => h
          case hw13 => rfl
          case hy13 => (intro w' hSw; (try dsimp only at hSw); go_simp; all_goals with_reducible rfl)
          try simp only [Act.put, List.setIfInBounds_toArray, List.set_cons_zero, List.set_cons_succ]
          refine' wpAnyH_take (i := 14) ?hi14 (by kernel_rfl) (by kernel_rfl) (by kernel_rfl) ?hQ14 (Or.inl ⟨?hw14, ?hy14⟩) (by assumption) ?_
          case hi14 => (simp only [List.getElem?_toArray, List.getElem?_cons_succ, List.getElem?_cons_zero]; rfl)
          case hQ14 => exact fun _ _ _ h => h
          case hw14 => rfl
          case hy14 => (intro w' hSw; (try dsimp only at hSw); go_simp; all_goals with_reducible rfl)
          try simp only [Act.put, List.setIfInBounds_toArray, List.set_cons_zero, List.set_cons_succ]
          refine' wpAnyH_take (i := 15) ?hi15 (by kernel_rfl) (by kernel_rfl) (by kernel_rfl) ?hQ15 (Or.inl ⟨?hw15, ?hy15⟩) (by assumption) ?_
          case hi15 => (simp only [List.getElem?_toArray, List.getElem?_cons_succ, List.getElem?_cons_zero]; rfl)
          case hQ15 => exact fun _ _ _ h => h
          case hw15 => rfl
          case hy15 => (intro w' hSw; (try dsimp only at hSw); go_simp; all_goals with_reducible rfl)
          try simp only [Act.put, List.setIfInBounds_toArray, List.set_cons_zero, List.set_cons_succ]
          refine wpAnyH_ready (rs := [7]) (by kernel_rfl) (by simp) ?_
          refine AllReadyH.cons rfl (fun K hK => ?_) AllReadyH.nil
          go_simp
          refine hK.out _ _ ?_ (fun hH => ?_)
          · exact tkeep (by assumption) ((Chg.refl Never _).alloc _)
          clear hK K
          try simp only [Act.put, List.setIfInBounds_toArray, List.set_cons_zero, List.set_cons_succ]
          refine wpAnyH_ready (rs := [8]) (by kernel_rfl) (by simp) ?_
          refine AllReadyH.cons rfl (fun K hK => ?_) AllReadyH.nil
          go_simp
          refine hK.out _ _ ?_ (fun hH => ?_)
          · assumption
          clear hK K
          try simp only [Act.put, List.setIfInBounds_toArray, List.set_cons_zero, List.set_cons_succ]
          refine' wpAnyH_take (i := 9) ?hi9 (by kernel_rfl) (by kernel_rfl) (by kernel_rfl) ?hQ9 (Or.inl ⟨?hw9, ?hy9⟩) (by assumption) ?_
          case hi9 => (simp only [List.getElem?_toArray, List.getElem?_cons_succ, List.getElem?_cons_zero]; rfl)
          case hQ9 => exact fun _ _ _ h => h
          case hw9 => rfl
          case hy9 => (intro w' hSw; (try dsimp only at hSw); go_simp; all_goals with_reducible rfl)
          try simp only [Act.put, List.setIfInBounds_toArray, List.set_cons_zero, List.set_cons_succ]
          refine' wpAnyH_take (i := 16) ?hi16 (by kernel_rfl) (by kernel_rfl) (by kernel_rfl) ?hQ16 (Or.inl ⟨?hw16, ?hy16⟩) (by assumption) ?_
          case hi16 => (simp only [List.getElem?_toArray, List.getElem?_cons_succ, List.getElem?_cons_zero]; rfl)
          case hQ16 => exact fun _ _ _ h => h
          case hw16 => rfl
          case hy16 => (intro w' hSw; (try dsimp only at hSw); go_simp; all_goals with_reducible rfl)
          try simp only [Act.put, List.setIfInBounds_toArray, List.set_cons_zero, List.set_cons_succ]
          refine' wpAnyH_take (i := 17) ?hi17 (by kernel_rfl) (by kernel_rfl) (by kernel_rfl) ?hQ17 (Or.inl ⟨?hw17, ?hy17⟩) (by assumption) ?_
          case hi17 => (simp only [List.getElem?_toArray, List.getElem?_cons_succ, List.getElem?_cons_zero]; rfl)
          case hQ17 => exact fun _ _ _ h => h
          case hw17 => rfl
          case hy17 => (intro w' hSw; (try dsimp only at hSw); go_simp; all_goals with_reducible rfl)
          try simp only [Act.put, List.setIfInBounds_toArray, List.set_cons_zero, List.set_cons_succ]
          refine' wpAnyH_take (i := 18) ?hi18 (by kernel_rfl) (by kernel_rfl) (by kernel_rfl) ?hQ18 (Or.inl ⟨?hw18, ?hy18⟩) (by assumption) ?_
          case hi18 => (simp only [List.getElem?_toArray, List.getElem?_cons_succ, List.getElem?_cons_zero]; rfl)
          case hQ18 => exact fun _ _ _ h => h
          case hw18 => rfl
          case hy18 => (intro w' hSw; (try dsimp only at hSw); go_simp; all_goals with_reducible rfl)
          try simp only [Act.put, List.setIfInBounds_toArray, List.set_cons_zero, List.set_cons_succ]
          refine wpAnyH_done (by kernel_rfl) ?_ _
          rename (Chg Never wi _ ∧ _) => hF
          have hcF := hF.1
          clear hF d0 d1 k2
          go_wp2_with fail
          go_roundw
          case rel => exact ⟨q + 1, _, by omega, by go_num, rfl, by rw [hU2.out]; exact hzU, hU2.out, hci.trans hcF⟩
          case measure => simp [intOf]; omega
        · rw [List.take_of_length_le (by omega)] at hU
          have hfin : Hid (U = toB (textU (l.take (k + 1)))) := by
            rw [Hid, hU.out, HT2.out, HT.out, HUL.out, ← toB_append]
            simp
          have hcf := hcw3.trans hci
          clear hU
          go_wp2_with fail
          go_roundw
          case rel => exact ⟨k + 1, by omega, by go_num, by rw [hfin.out], hcf⟩
          case measure => simp [intOf]; omega
    · rw [List.take_of_length_le (by omega)]
      go_wp2_with fail
      go_ret
      exact ⟨rfl, hc⟩
end Go.Proofs.YtgabchhplmncnaaGreatDoor
