/-
  PARTS: THE WALK of the document's RangeOf (handstitchref2).; TWO PAIRS OF NUMBERS ([2]int), compared.; THE LAW RangeIs, walked.
-/
import Derived.Test.YtgabchhplmncnaaGreatDoorPackRi6
import Derived.Test.YtgabchhplmncnaaGreatDoorPackRi7
import Derived.Test.YtgabchhplmncnaaGreatDoorPackRi9
import Derived.Test.YtgabchhplmncnaaGreatDoorPackRi3
import Derived.Test.YtgabchhplmncnaaGreatDoorPackRi1
import Derived.Deep.QuietTactic
import Derived.BigQuiet
namespace Go.Proofs.YtgabchhplmncnaaGreatDoor
open Go.RowKit

theorem elemOk_rows : ElemOk Tryz.prog 87 34 1 := elemOk_of Tryz.underlying87 (z := .slice none 0 0) (b := 24) (by kernel_rfl) rfl (by decide)
theorem sq_zero {l : List (List Int)} (h8 : l.length ≤ 8) (h : SqBd l.length l) : sqFault l = 0 := by
  unfold sqFault
  rw [if_neg (by omega), firstOf_zero]
  intro x hx
  obtain ⟨h1, h2⟩ := h x hx
  unfold rowFault
  rw [if_neg (by omega), firstOf_zero]
  intro c hc
  have := h2 c hc
  unfold costBad
  rw [if_neg (by omega)]
theorem filt_take {M : List Int} {a i : Nat} {c k : Int} (hx : M[i]? = some c) (ha : a ≤ i) : (((M.drop a).take (i + 1 - a)).filter (· == k)) = (((M.drop a).take (i - a)).filter (· == k)) ++ if c = k then [k] else [] := by
  have hd : (M.drop a)[i - a]? = some c := by rw [List.getElem?_drop, show a + (i - a) = i by omega]; exact hx
  rw [show i + 1 - a = (i - a) + 1 by omega, List.take_add_one, hd, Option.toList_some, List.filter_append]
  by_cases e : c = k
  · rw [if_pos e, List.filter_cons, if_pos (by simpa using e), e]; rfl
  · rw [if_neg e, List.filter_cons, if_neg (by simpa using e)]; rfl
theorem app_left {α : Type} {p q : List α} {i : Nat} (h : i < p.length) : (p ++ q)[i]? = p[i]? := List.getElem?_append_left h
theorem app_right {α : Type} {p q : List α} {i : Nat} (h : p.length ≤ i) : (p ++ q)[i]? = q[i - p.length]? := List.getElem?_append_right h
set_option maxHeartbeats 4000000 in
set_option maxRecDepth 100000 in
theorem refRange_any (p q : List (List Change)) (vp vq : Value) (w : World) (hp : Rdv w Never vp p) (hq : Rdv w Never vq q) :
    Calls Tryz.prog 10 #[vp, vq] w fun e w' => ∃ r, e = .returned (.tuple #[r, .int .i64 (rangeFault p q)]) ∧ Chg Never w w' ∧ Rdv w' Never r (rangeL p q) := by
  obtain ⟨a0, ca, rfl, a1, a2, a3⟩ := rdv_slice hp
  obtain ⟨b0, cb, rfl, b1, b2, b3⟩ := rdv_slice hq
  unfold maxLen at a2 b2
  by_cases h4 : 4 < p.length ∨ 4 < q.length
  · have HF : Hid (rangeFault p q = 3) := if_pos h4
    have HR : Hid (rangeL p q = []) := if_neg (by rw [HF.out]; decide)
    by_cases h4a : 4 < p.length
    · have t1 : decide ((4 : Int) < (p.length : Int)) = true := decide_eq_true (by omega)
      go_enter Tryz.func10, Tryz.ntmps10
      go_wp2_with fail
      go_ret2
      exact ⟨_, by rw [HF.out]; rfl, Chg.refl _ _, by rw [HR.out]; exact rdv_nil _ _⟩
    · have t1 : decide ((4 : Int) < (p.length : Int)) = false := decide_eq_false (by omega)
      have t2 : decide ((4 : Int) < (q.length : Int)) = true := decide_eq_true (by omega)
      go_enter Tryz.func10, Tryz.ntmps10
      go_wp2_with fail
      go_ret2
      exact ⟨_, by rw [HF.out]; rfl, Chg.refl _ _, by rw [HR.out]; exact rdv_nil _ _⟩
  · have t1 : decide ((4 : Int) < (p.length : Int)) = false := decide_eq_false (by omega)
    have t2 : decide ((4 : Int) < (q.length : Int)) = false := decide_eq_false (by omega)
    have HF : Hid (rangeFault p q = firstOf (fun c => (patchFault c).2) (p ++ q)) := if_neg h4
    have hpl : p.length ≤ 4 := by omega
    have hql : q.length ≤ 4 := by omega
    obtain ⟨n, hN⟩ : ∃ n, p.length + q.length = n := ⟨_, rfl⟩
    have HN := Lib.hid hN
    have hn8 : n ≤ 8 := by omega
    have eN : (p.length : Int) + (q.length : Int) = (n : Int) := by omega
    have hpq : (p ++ q).length = n := by rw [List.length_append]; exact hN
    have hpn : p.length ≤ n := by omega
    clear hN h4
    go_enter Tryz.func10, Tryz.ntmps10
    go_wp2_with fail
    go_loopw [6, 7] (fun ov iv wr => ∃ i : Nat, i ≤ n ∧ iv = .int .i64 i ∧ Chg Never w wr ∧ Own 84 wr (Old w.heap.size) ov (((p ++ q).take i).map rtextOf) ∧ Hid (firstOf (fun c => (patchFault c).2) ((p ++ q).drop i) = firstOf (fun c => (patchFault c).2) (p ++ q))) (fun _ iv _ => n - (intOf iv).toNat)
    case atStart => exact ⟨0, Nat.zero_le _, rfl, Chg.refl _ _, own_nil _ _ _, rfl⟩
    case round =>
      obtain ⟨i, hi, rfl, hc, hown, hf⟩ := hrel
      rename World => wr
      obtain ⟨va, vn, vc, rfl⟩ := own_isSlice hown
      by_cases hlt : i < n
      · by_cases hip : i < p.length
        · have ti : decide ((p.length : Int) ≤ (i : Int)) = false := decide_eq_false (by omega)
          have tin : decide (p.length ≤ i) = false := decide_eq_false (by omega)
          obtain ⟨x, hx⟩ : ∃ x, p[i]? = some x := ⟨p[i], by simp [hip]⟩
          obtain ⟨b, off, xv, rfl, -, -, c0, hxv⟩ := elems_row a3 hx
          clear a3 b3
          have hxx : (p ++ q)[i]? = some x := (app_left hip).trans hx
          have hMT := Lib.hid (map_take_succ (f := rtextOf) hxx)
          obtain ⟨st1, st2⟩ := firstOf_from hf.out hxx
          obtain ⟨xa, xc, rfl, -, -, -⟩ := rdv_slice hxv
          have hxv := hxv.never hc
          have c0 := hc.cellNever c0
          clear hxx hx
          go_wp2_with fail
          refine (refPatch_any x _ _ hxv).mono ?_
          rintro e w1 ⟨rfl, hc1⟩
          generalize (patchFault x).1 = at0
          have hxv := hxv.never hc1
          have hw1 := hc.trans hc1
          have c0 := hc1.cellNever c0
          by_cases hz : (patchFault x).2 = 0
          · have HS2 := Lib.hid (st1 hz)
            have hTl : (textG x).length ≤ 200000 := by
              obtain ⟨q1, q2⟩ := patch_each hz
              have := (changes_ok x q2).2
              omega
            have hfew : (rtextOf x).length ≤ 99000 := by unfold rtextOf; rw [List.length_map]; exact linesG_few hz
            have hPT := Lib.hid (fun wx hx => refPatchText_any x (.slice xa x.length xc) wx hx hz)
            have hPP : ∀ wx, Calls Tryz.prog 38 #[.string (toB (textG x))] wx fun e w' => ∃ r, e = .returned r ∧ Chg Never wx w' ∧ Rdv w' (Old wx.heap.size) r (rtextOf x ++ [toB []]) := fun wx => by
              have := refParts_any (toB (textG x)) wx (by rw [toB_size']; omega)
              rw [toB_data, partsG hz, List.map_append] at this
              exact this
            have hPP := Lib.hid hPP
            rw [hz]
            obtain ⟨L, hL⟩ : ∃ L, rtextOf x = L := ⟨_, rfl⟩
            rw [hL] at hPP hfew hMT
            clear hz st1 st2 hL hf hTl
            go_wp2_with fail
            refine (hPT.out _ hxv).mono ?_
            rintro e w2 ⟨rfl, hc2⟩
            have hw2 := hw1.trans hc2
            clear c0 hxv hPT
            go_wp2_with fail
            refine (hPP.out _).mono ?_
            rintro e w3 ⟨r3, rfl, hc3, hr3⟩
            have hw3 := hw2.trans hc3
            have hown3 := ((hown.never hc1).never hc2).never hc3
            have hvl := own_block_lt ((hown.never hc1).never hc2)
            have hR0 : Rdv w3 (fun g => Old w.heap.size g ∨ (Value.slice va vn vc).ownBlock = some g) r3 (L ++ [toB []]) := hr3.sub (fun g _ hg => by
              unfold Old
              rcases hg with hg | hg
              · unfold Old at hg; have := hw2.size; omega
              · exact hvl g hg)
            obtain ⟨sa, sc, rfl, -, -, -⟩ := rdv_slice hR0
            obtain ⟨sb, -, -, hrun, hsub⟩ := slice_g (P := Tryz.prog) (t := 84) (by kernel_rfl) size_str hR0 0 L.length (Nat.zero_le _) (by simp)
            rw [List.drop_zero, Nat.sub_zero, Nat.sub_zero, List.take_left] at hsub
            have hNL : (L ++ [toB []]).length = L.length + 1 := by simp
            rw [hNL] at hrun ⊢
            rw [Nat.sub_zero, Nat.sub_zero] at hrun
            have hrun := fun (wx : World) => hrun (L.length : Nat) wx rfl rfl
            have sw : IntKind.i64.wrap (((L.length + 1 : Nat) : Int) - 1) = (L.length : Int) := by rw [show ((L.length + 1 : Nat) : Int) - 1 = (L.length : Int) by omega]; exact IntWalk.i64_in _ (by omega)
            have hlen : (((p ++ q).take i).map rtextOf).length ≤ 1000000000 := by rw [List.length_map, List.length_take]; omega
            clear hR0 hown hvl hw1 hw2 hc1 hc2 hc3 hr3 hc hNL hPP
            go_wp2_with (at_builtin; refine wpList_push (by rfl) _ _ 82 (by rfl) elemOk_lines (O := Old w.heap.size) (l := ((p ++ q).take i).map rtextOf) (y := L) (by rfl) (by rfl) (by simp) hown3 hsub (old_lt hw3) hlen ?_; intro v' w4 hown4 hc4 _)
            have hw4 := own_step hw3 hown3 hc4
            clear hrun
            go_wp2_with fail
            go_roundw
            case rel => exact ⟨i + 1, by omega, by go_num, hw4, by rw [hMT.out]; exact hown4, HS2⟩
            case measure => simp [intOf] <;> omega
          · have HF2 : Hid (rangeFault p q = (patchFault x).2) := by rw [Hid, HF.out, st2 hz]
            have HR : Hid (rangeL p q = []) := if_neg (by rw [HF2.out]; exact hz)
            have tF : ((patchFault x).2 != 0) = true := by simpa using hz
            have tF2 : ((patchFault x).2 == 0) = false := by simpa using hz
            generalize (patchFault x).2 = fz at HF2 tF tF2
            clear hz st1 st2 hf hown c0 hxv
            go_wp2_with fail
            go_ret2
            exact ⟨_, by rw [HF2.out]; rfl, hw1, by rw [HR.out]; exact rdv_nil _ _⟩
        · have ti : decide ((p.length : Int) ≤ (i : Int)) = true := decide_eq_true (by omega)
          have tin : decide (p.length ≤ i) = true := decide_eq_true (by omega)
          have hiq : i - p.length < q.length := by have := HN.out; omega
          obtain ⟨x, hx⟩ : ∃ x, q[i - p.length]? = some x := ⟨q[i - p.length], by simp [hiq]⟩
          obtain ⟨b, off, xv, rfl, -, -, c0, hxv⟩ := elems_row b3 hx
          obtain ⟨d, hd⟩ : ∃ d, i - p.length = d := ⟨_, rfl⟩
          have hx2 := (app_right (q := q) (show p.length ≤ i by omega)).trans hx
          rw [hd] at c0 hiq
          have sd : IntKind.i64.wrap ((i : Int) - (p.length : Int)) = (d : Int) := by rw [show (i : Int) - (p.length : Int) = (d : Int) by omega]; exact IntWalk.i64_in _ (by omega)
          clear a3 b3 hd
          have hxx : (p ++ q)[i]? = some x := hx2
          have hMT := Lib.hid (map_take_succ (f := rtextOf) hxx)
          obtain ⟨st1, st2⟩ := firstOf_from hf.out hxx
          obtain ⟨xa, xc, rfl, -, -, -⟩ := rdv_slice hxv
          have hxv := hxv.never hc
          have c0 := hc.cellNever c0
          clear hxx hx
          go_wp2_with fail
          refine (refPatch_any x _ _ hxv).mono ?_
          rintro e w1 ⟨rfl, hc1⟩
          generalize (patchFault x).1 = at0
          have hxv := hxv.never hc1
          have hw1 := hc.trans hc1
          have c0 := hc1.cellNever c0
          by_cases hz : (patchFault x).2 = 0
          · have HS2 := Lib.hid (st1 hz)
            have hTl : (textG x).length ≤ 200000 := by
              obtain ⟨q1, q2⟩ := patch_each hz
              have := (changes_ok x q2).2
              omega
            have hfew : (rtextOf x).length ≤ 99000 := by unfold rtextOf; rw [List.length_map]; exact linesG_few hz
            have hPT := Lib.hid (fun wx hx => refPatchText_any x (.slice xa x.length xc) wx hx hz)
            have hPP : ∀ wx, Calls Tryz.prog 38 #[.string (toB (textG x))] wx fun e w' => ∃ r, e = .returned r ∧ Chg Never wx w' ∧ Rdv w' (Old wx.heap.size) r (rtextOf x ++ [toB []]) := fun wx => by
              have := refParts_any (toB (textG x)) wx (by rw [toB_size']; omega)
              rw [toB_data, partsG hz, List.map_append] at this
              exact this
            have hPP := Lib.hid hPP
            rw [hz]
            obtain ⟨L, hL⟩ : ∃ L, rtextOf x = L := ⟨_, rfl⟩
            rw [hL] at hPP hfew hMT
            clear hz st1 st2 hL hf hTl
            go_wp2_with fail
            refine (hPT.out _ hxv).mono ?_
            rintro e w2 ⟨rfl, hc2⟩
            have hw2 := hw1.trans hc2
            clear c0 hxv hPT
            go_wp2_with fail
            refine (hPP.out _).mono ?_
            rintro e w3 ⟨r3, rfl, hc3, hr3⟩
            have hw3 := hw2.trans hc3
            have hown3 := ((hown.never hc1).never hc2).never hc3
            have hvl := own_block_lt ((hown.never hc1).never hc2)
            have hR0 : Rdv w3 (fun g => Old w.heap.size g ∨ (Value.slice va vn vc).ownBlock = some g) r3 (L ++ [toB []]) := hr3.sub (fun g _ hg => by
              unfold Old
              rcases hg with hg | hg
              · unfold Old at hg; have := hw2.size; omega
              · exact hvl g hg)
            obtain ⟨sa, sc, rfl, -, -, -⟩ := rdv_slice hR0
            obtain ⟨sb, -, -, hrun, hsub⟩ := slice_g (P := Tryz.prog) (t := 84) (by kernel_rfl) size_str hR0 0 L.length (Nat.zero_le _) (by simp)
            rw [List.drop_zero, Nat.sub_zero, Nat.sub_zero, List.take_left] at hsub
            have hNL : (L ++ [toB []]).length = L.length + 1 := by simp
            rw [hNL] at hrun ⊢
            rw [Nat.sub_zero, Nat.sub_zero] at hrun
            have hrun := fun (wx : World) => hrun (L.length : Nat) wx rfl rfl
            have sw : IntKind.i64.wrap (((L.length + 1 : Nat) : Int) - 1) = (L.length : Int) := by rw [show ((L.length + 1 : Nat) : Int) - 1 = (L.length : Int) by omega]; exact IntWalk.i64_in _ (by omega)
            have hlen : (((p ++ q).take i).map rtextOf).length ≤ 1000000000 := by rw [List.length_map, List.length_take]; omega
            clear hR0 hown hvl hw1 hw2 hc1 hc2 hc3 hr3 hc hNL hPP
            go_wp2_with (at_builtin; refine wpList_push (by rfl) _ _ 82 (by rfl) elemOk_lines (O := Old w.heap.size) (l := ((p ++ q).take i).map rtextOf) (y := L) (by rfl) (by rfl) (by simp) hown3 hsub (old_lt hw3) hlen ?_; intro v' w4 hown4 hc4 _)
            have hw4 := own_step hw3 hown3 hc4
            clear hrun
            go_wp2_with fail
            go_roundw
            case rel => exact ⟨i + 1, by omega, by go_num, hw4, by rw [hMT.out]; exact hown4, HS2⟩
            case measure => simp [intOf] <;> omega
          · have HF2 : Hid (rangeFault p q = (patchFault x).2) := by rw [Hid, HF.out, st2 hz]
            have HR : Hid (rangeL p q = []) := if_neg (by rw [HF2.out]; exact hz)
            have tF : ((patchFault x).2 != 0) = true := by simpa using hz
            have tF2 : ((patchFault x).2 == 0) = false := by simpa using hz
            generalize (patchFault x).2 = fz at HF2 tF tF2
            clear hz st1 st2 hf hown c0 hxv
            go_wp2_with fail
            go_ret2
            exact ⟨_, by rw [HF2.out]; rfl, hw1, by rw [HR.out]; exact rdv_nil _ _⟩
      · obtain rfl : n = i := by omega
        have hf' := hf.out
        rw [List.drop_of_length_le (by omega)] at hf'
        have HFZ : Hid (rangeFault p q = 0) := by rw [Hid, HF.out, ← hf']; rfl
        have HRL : Hid (rangeL p q = rangeOut p.length q.length (rangeM p q)) := if_pos HFZ.out
        rw [List.take_of_length_le (by omega), List.map_append] at hown
        have hall : ∀ c, (c ∈ p ∨ c ∈ q) → (rtextOf c).length ≤ 99000 := fun c hc => by
          have h := HFZ.out
          rw [HF.out, firstOf_zero] at h
          unfold rtextOf
          rw [List.length_map]
          exact linesG_few (h c (List.mem_append.2 hc))
        have hlA : ∀ x ∈ p.map rtextOf, x.length ≤ 99000 := fun x hx => by
          obtain ⟨c, hc, rfl⟩ := List.mem_map.1 hx
          exact hall c (.inl hc)
        have hlB : ∀ x ∈ q.map rtextOf, x.length ≤ 99000 := fun x hx => by
          obtain ⟨c, hc, rfl⟩ := List.mem_map.1 hx
          exact hall c (.inr hc)
        have HM : Hid (rangeM p q = matchR (costsOf (p.map rtextOf) (q.map rtextOf))) := rfl
        have eA : (p.map rtextOf).length = p.length := List.length_map ..
        have eB : (q.map rtextOf).length = q.length := List.length_map ..
        generalize p.map rtextOf = A at hlA HM eA hown
        generalize q.map rtextOf = B at hlB HM eB hown
        have hT := hown.rdv.sub (O' := Never) (fun _ _ h => h.elim)
        obtain ⟨ta, tc, hq, -, -, t3⟩ := rdv_slice hT
        simp only [Value.slice.injEq] at hq
        obtain ⟨rfl, hvn, rfl⟩ := hq
        have hAB : A.length + B.length = n := by rw [eA, eB]; exact HN.out
        rw [List.length_append, hAB] at hvn
        have hvn := hvn.symm; subst hvn
        clear hf hf' hall hown hT a3 b3 hp hq hlt
        rename World => w4
        have hCho : Hid (Choice n (rangeM p q)) := by
          rw [HM.out]
          have := choice_of hlA hlB
          rw [hAB] at this
          exact this
        go_wp2_with fail
        go_loopw [14, 15] (fun cv iv wr => ∃ i : Nat, i ≤ n ∧ iv = .int .i64 i ∧ Chg Never w4 wr ∧ Own 34 wr (Old w4.heap.size) cv (((List.range n).take i).map (rowOf A B))) (fun _ iv _ => n - (intOf iv).toNat)
        case atStart => exact ⟨0, Nat.zero_le _, rfl, Chg.refl _ _, own_nil _ _ _⟩
        case round =>
          obtain ⟨i, hi, rfl, hc4, hown⟩ := hrel
          rename World => wr
          obtain ⟨va, vn, vc, rfl⟩ := own_isSlice hown
          by_cases hlt : i < n
          · have hownE := hown.keep (O'' := fun g => Old w4.heap.size g ∨ wr.heap.size ≤ g) (Chg.refl Never wr) (fun _ _ hh => hh.elim) (fun g hg hh => hh.elim (fun h => h) (fun h => by omega))
            have hvl := own_block_lt hown
            have hct := Lib.hid (costs_take (a := A) (b := B) (i := i) (by rw [hAB]; exact hlt))
            clear hown
            go_wp2_with fail
            go_loopw [16, 17] (fun rv kv wi => ∃ k : Nat, k ≤ n ∧ kv = .int .i64 k ∧ Chg (fun x => wr.heap.size ≤ x) wr wi ∧ Own 3 wi (fun x => x < wr.heap.size) rv (((List.range n).take k).map (rangeCost A B i))) (fun _ kv _ => n - (intOf kv).toNat)
            case atStart => exact ⟨0, Nat.zero_le _, rfl, Chg.refl _ _, own_nil _ _ _⟩
            case round =>
              obtain ⟨k, hk, rfl, hci, hown⟩ := hrel
              rename World => wi
              obtain ⟨ra, rn, rc, rfl⟩ := own_isSlice hown
              have hw4i : Chg Never w4 wi := hc4.trans' hci (fun x hx hh => absurd hh (by have := hc4.size; omega))
              by_cases hkt : k < n
              · have hyi : I64 (rangeCost A B i k) := by have := cost_bd hlA hlB i k; unfold I64; omega
                have hrt : Hid (((List.range n).take (k + 1)).map (rangeCost A B i) = ((List.range n).take k).map (rangeCost A B i) ++ [rangeCost A B i k]) := by
                  have := row_take (a := A) (b := B) (i := i) (k := k) (by rw [hAB]; exact hkt)
                  rw [hAB] at this
                  exact this
                have hlen : (((List.range n).take k).map (rangeCost A B i)).length ≤ 1000000000 := by rw [List.length_map, List.length_take, List.length_range]; omega
                by_cases hip : i < p.length
                · have ti : decide ((i : Int) < (p.length : Int)) = true := decide_eq_true (by omega)
                  have tin : decide (i < p.length) = true := decide_eq_true hip
                  obtain ⟨x, hx⟩ : ∃ x, A[i]? = some x := ⟨A[i]'(by omega), by simp⟩
                  have hxl := hlA x (List.mem_of_getElem? hx)
                  obtain ⟨tb, toff, xv, rfl, -, -, c0, hxv⟩ := elems_row t3 ((app_left (q := B) (by omega)).trans hx)
                  have c0 := hw4i.cellNever c0
                  have hxv := hxv.never hw4i
                  by_cases hkq : k < q.length
                  · have tk : decide ((k : Int) < (q.length : Int)) = true := decide_eq_true (by omega)
                    have tkn : decide (k < q.length) = true := decide_eq_true hkq
                    obtain ⟨y, hy⟩ : ∃ y, B[k]? = some y := ⟨B[k]'(by omega), by simp⟩
                    have hyl := hlB y (List.mem_of_getElem? hy)
                    obtain ⟨tb2, toff2, yv, hqe, -, -, d0, hyv⟩ := elems_row t3 (i := p.length + k) (x := y) (by rw [app_right (by omega), show p.length + k - A.length = k by omega]; exact hy)
                    simp only [Option.some.injEq, Addr.mk.injEq, and_true] at hqe
                    obtain ⟨rfl, rfl⟩ := hqe
                    have d0 := hw4i.cellNever d0
                    have hyv := hyv.never hw4i
                    have HRC : Hid (rangeCost A B i k = (diffN x y : Nat)) := by unfold Hid rangeCost; rw [hx, hy]
                    obtain ⟨z, hz⟩ : ∃ z, p.length + k = z := ⟨_, rfl⟩
                    rw [hz] at d0
                    have sz : IntKind.i64.wrap ((p.length : Int) + (k : Int)) = (z : Int) := by rw [show (p.length : Int) + (k : Int) = (z : Int) by omega]; exact IntWalk.i64_in _ (by omega)
                    have iz : (z : Int) < (n : Int) := by have := HN.out; omega
                    have ii : (i : Int) < (n : Int) := by omega
                    clear t3 hx hy hz
                    go_wp2_with fail
                    refine wp_region_held_drew (S := fun w' => Chg Never wi w' ∧ w'.cell? ⟨tb, toff + i, none⟩ = some xv ∧ w'.cell? ⟨tb, toff + z, none⟩ = some yv) (by kernel_rfl) ⟨(Chg.refl Never wi).drew, c0, d0⟩ (fun hH => ?_)
                    refine' wpAnyH_take (i := 0) ?hi0 (by kernel_rfl) (by kernel_rfl) (by kernel_rfl) ?hQ0 (Or.inl ⟨?hw0, ?hy0⟩) (by assumption) ?_
                    case hi0 => (simp only [List.getElem?_toArray, List.getElem?_cons_zero]; rfl)
                    case hQ0 => exact fun _ _ _ h => h
                    case hw0 => rfl
                    case hy0 => (intro w' hSw; (try dsimp only at hSw); go_simp; all_goals with_reducible rfl)
                    try simp only [Act.put, List.setIfInBounds_toArray, List.set_cons_zero, List.set_cons_succ]
                    refine' wpAnyH_take (i := 1) ?hi1 (by kernel_rfl) (by kernel_rfl) (by kernel_rfl) ?hQ1 (Or.inl ⟨?hw1, ?hy1⟩) (by assumption) ?_
                    case hi1 => (simp only [List.getElem?_toArray, List.getElem?_cons_succ, List.getElem?_cons_zero]; rfl)
                    case hQ1 => exact fun _ _ _ h => h
                    case hw1 => rfl
                    case hy1 => (intro w' hSw; (try dsimp only at hSw); go_simp; all_goals with_reducible rfl)
                    try simp only [Act.put, List.setIfInBounds_toArray, List.set_cons_zero, List.set_cons_succ]
                    refine' wpAnyH_take (i := 2) ?hi2 (by kernel_rfl) (by kernel_rfl) (by kernel_rfl) ?hQ2 (Or.inl ⟨?hw2, ?hy2⟩) (by assumption) ?_
                    case hi2 => (simp only [List.getElem?_toArray, List.getElem?_cons_succ, List.getElem?_cons_zero]; rfl)
                    case hQ2 => exact fun _ _ _ h => h
                    case hw2 => rfl
                    case hy2 => (intro w' hSw; (try dsimp only at hSw); go_simp; all_goals with_reducible rfl)
                    try simp only [Act.put, List.setIfInBounds_toArray, List.set_cons_zero, List.set_cons_succ]
                    refine' wpAnyH_take (i := 3) ?hi3 (by kernel_rfl) (by kernel_rfl) (by kernel_rfl) ?hQ3 (Or.inl ⟨?hw3, ?hy3⟩) (by assumption) ?_
                    case hi3 => (simp only [List.getElem?_toArray, List.getElem?_cons_succ, List.getElem?_cons_zero]; rfl)
                    case hQ3 => exact fun _ _ _ h => h
                    case hw3 => rfl
                    case hy3 => (intro w' hSw; (try dsimp only at hSw); go_simp; all_goals with_reducible rfl)
                    try simp only [Act.put, List.setIfInBounds_toArray, List.set_cons_zero, List.set_cons_succ]
                    refine' wpAnyH_take (i := 4) ?hi4 (by kernel_rfl) (by kernel_rfl) (by kernel_rfl) ?hQ4 (Or.inl ⟨?hw4, ?hy4⟩) (by assumption) ?_
                    case hi4 => (simp only [List.getElem?_toArray, List.getElem?_cons_succ, List.getElem?_cons_zero]; rfl)
                    case hQ4 => exact fun _ _ _ h => h
                    case hw4 => rfl
                    case hy4 => (intro w' hSw; (try dsimp only at hSw); go_simp; all_goals with_reducible rfl)
                    try simp only [Act.put, List.setIfInBounds_toArray, List.set_cons_zero, List.set_cons_succ]
                    refine' wpAnyH_take (i := 5) ?hi5 (by kernel_rfl) (by kernel_rfl) (by kernel_rfl) ?hQ5 (Or.inl ⟨?hw5, ?hy5⟩) (by assumption) ?_
                    case hi5 => (simp only [List.getElem?_toArray, List.getElem?_cons_succ, List.getElem?_cons_zero]; rfl)
                    case hQ5 => exact fun _ _ _ h => h
                    case hw5 => rfl
                    case hy5 => (intro w' hSw; (try dsimp only at hSw); go_simp; all_goals with_reducible rfl)
                    try simp only [Act.put, List.setIfInBounds_toArray, List.set_cons_zero, List.set_cons_succ]
                    refine' wpAnyH_take (i := 6) ?hi6 (by kernel_rfl) (by kernel_rfl) (by kernel_rfl) ?hQ6 (Or.inl ⟨?hw6, ?hy6⟩) (by assumption) ?_
                    case hi6 => (simp only [List.getElem?_toArray, List.getElem?_cons_succ, List.getElem?_cons_zero]; rfl)
                    case hQ6 => exact fun _ _ _ h => h
                    case hw6 => rfl
                    case hy6 => (intro w' hSw; (try dsimp only at hSw); go_simp; all_goals with_reducible rfl)
                    try simp only [Act.put, List.setIfInBounds_toArray, List.set_cons_zero, List.set_cons_succ]
                    refine' wpAnyH_take (i := 7) ?hi7 (by kernel_rfl) (by kernel_rfl) (by kernel_rfl) ?hQ7 (Or.inl ⟨?hw7, ?hy7⟩) (by assumption) ?_
                    case hi7 => (simp only [List.getElem?_toArray, List.getElem?_cons_succ, List.getElem?_cons_zero]; rfl)
                    case hQ7 => exact fun _ _ _ h => h
                    case hw7 => rfl
                    case hy7 => (intro w' hSw; (try dsimp only at hSw); go_simp; all_goals with_reducible rfl)
                    try simp only [Act.put, List.setIfInBounds_toArray, List.set_cons_zero, List.set_cons_succ]
                    refine' wpAnyH_take (i := 8) ?hi8 (by kernel_rfl) (by kernel_rfl) (by kernel_rfl) ?hQ8 (Or.inl ⟨?hw8, ?hy8⟩) (by assumption) ?_
                    case hi8 => (simp only [List.getElem?_toArray, List.getElem?_cons_succ, List.getElem?_cons_zero]; rfl)
                    case hQ8 => exact fun _ _ _ h => h
                    case hw8 => rfl
                    case hy8 => (intro w' hSw; (try dsimp only at hSw); go_simp; all_goals with_reducible rfl)
                    try simp only [Act.put, List.setIfInBounds_toArray, List.set_cons_zero, List.set_cons_succ]
                    refine' wpAnyH_take (i := 9) ?hi9 (by kernel_rfl) (by kernel_rfl) (by kernel_rfl) ?hQ9 (Or.inl ⟨?hw9, ?hy9⟩) (by assumption) ?_
                    case hi9 => (simp only [List.getElem?_toArray, List.getElem?_cons_succ, List.getElem?_cons_zero]; rfl)
                    case hQ9 => exact fun _ _ _ h => h
                    case hw9 => rfl
                    case hy9 => (intro w' hSw; (try dsimp only at hSw); go_simp; all_goals with_reducible rfl)
                    try simp only [Act.put, List.setIfInBounds_toArray, List.set_cons_zero, List.set_cons_succ]
                    refine' wpAnyH_take (i := 10) ?hi10 (by kernel_rfl) (by kernel_rfl) (by kernel_rfl) ?hQ10 (Or.inl ⟨?hw10, ?hy10⟩) (by assumption) ?_
                    case hi10 => (simp only [List.getElem?_toArray, List.getElem?_cons_succ, List.getElem?_cons_zero]; rfl)
                    case hQ10 => exact fun _ _ _ h => h
                    case hw10 => rfl
                    case hy10 => (intro w' hSw; (try dsimp only at hSw); go_simp; all_goals with_reducible rfl)
                    try simp only [Act.put, List.setIfInBounds_toArray, List.set_cons_zero, List.set_cons_succ]
                    refine wpAnyH_ready (rs := [11]) (by kernel_rfl) (by simp) ?_
                    refine AllReadyH.cons rfl (fun K hK => ?_) AllReadyH.nil
                    go_simp
                    (go_at_call 40; refine (differ_any x y _ _ _ (hxv.never (And.left (by assumption))) (hyv.never (And.left (by assumption))) (by omega) (by omega)).mono ?_; rintro e wq ⟨rfl, hcq⟩; have hS2 := rkeep2 (by assumption) hcq)
                    try go_wp2_with fail
                    refine hK.out _ _ ?_ (fun hH => ?_)
                    · assumption
                    clear hK K
                    try simp only [Act.put, List.setIfInBounds_toArray, List.set_cons_zero, List.set_cons_succ]
                    refine' wpAnyH_take (i := 12) ?hi12 (by kernel_rfl) (by kernel_rfl) (by kernel_rfl) ?hQ12 (Or.inl ⟨?hw12, ?hy12⟩) (by assumption) ?_
                    case hi12 => (simp only [List.getElem?_toArray, List.getElem?_cons_succ, List.getElem?_cons_zero]; rfl)
                    case hQ12 => exact fun _ _ _ h => h
                    case hw12 => rfl
                    case hy12 => (intro w' hSw; (try dsimp only at hSw); go_simp; all_goals with_reducible rfl)
                    try simp only [Act.put, List.setIfInBounds_toArray, List.set_cons_zero, List.set_cons_succ]
                    refine wpAnyH_done (by kernel_rfl) ?_ _
                    rename (Chg Never wi _ ∧ _) => hF2
                    have hcF := hF2.1
                    clear hF2 c0 d0
                    have hownX := hown.never hcF
                    have hciX : Chg (fun x => wr.heap.size ≤ x) wr wq := hci.trans (hcF.mono (fun _ _ h => h.elim))
                    have hOx : ∀ x, x < wr.heap.size → x < wq.heap.size := fun x hx => Nat.lt_of_lt_of_le hx hciX.size
                    clear hown hci
                    go_wp2_with (at_builtin; refine wpList_push (by rfl) _ _ 34 (by rfl) elemOk_ints (O := fun x => x < wr.heap.size) (l := ((List.range n).take k).map (rangeCost A B i)) (y := rangeCost A B i k) (by rfl) (by rfl) (by simp) hownX ⟨by rw [HRC.out] <;> first | rfl | (congr 2; unfold aloneN; omega), hyi⟩ hOx hlen ?_; intro v' w7 hown7 hc7 _)
                    have hci7 : Chg (fun x => wr.heap.size ≤ x) wr w7 := hciX.trans (hc7.mono (fun x _ hx => by have := own_out hownX x hx; omega))
                    clear hc7 hownX
                    go_wp2_with fail
                    go_roundw
                    case rel => exact ⟨k + 1, by omega, by go_num, hci7, by rw [hrt.out]; exact hown7⟩
                    case measure => simp [intOf] <;> omega
                  · have tk : decide ((k : Int) < (q.length : Int)) = false := decide_eq_false (by omega)
                    have tkn : decide (k < q.length) = false := decide_eq_false hkq
                    have HRC : Hid (rangeCost A B i k = (aloneN x : Nat)) := by unfold Hid rangeCost; rw [hx, List.getElem?_eq_none (by omega)]
                    obtain ⟨xa, xc, rfl, -, -, -⟩ := rdv_slice hxv
                    have e1 : IntKind.i64.wrap ((x.length : Int) + 1) = ((x.length + 1 : Nat) : Int) := by rw [show (x.length : Int) + 1 = ((x.length + 1 : Nat) : Int) by omega]; exact IntWalk.i64_in _ (by omega)
                    have e2 : (((x.length + 1 : Nat) : Int)).tdiv 2 = (((x.length + 1) / 2 : Nat) : Int) := by rw [Int.tdiv_eq_ediv_of_nonneg (by omega)]; omega
                    have e3 : IntKind.i64.wrap ((((x.length + 1) / 2 : Nat) : Int)) = (((x.length + 1) / 2 : Nat) : Int) := IntWalk.i64_in _ (by omega)
                    have e4 : IntKind.i64.wrap ((((x.length + 1) / 2 : Nat) : Int) + 1) = (aloneN x : Int) := by unfold aloneN; rw [show (((x.length + 1) / 2 : Nat) : Int) + 1 = (((x.length + 1) / 2 + 1 : Nat) : Int) by omega]; exact IntWalk.i64_in _ (by omega)
                    have ii : (i : Int) < (n : Int) := by omega
                    clear t3 hx hxv
                    have hownX := hown.never (Chg.refl Never wi)
                    have hciX : Chg (fun x => wr.heap.size ≤ x) wr wi := hci.trans ((Chg.refl Never wi).mono (fun _ _ h => h.elim))
                    have hOx : ∀ x, x < wr.heap.size → x < wi.heap.size := fun x hx => Nat.lt_of_lt_of_le hx hciX.size
                    clear hown hci
                    go_wp2_with (at_builtin; refine wpList_push (by rfl) _ _ 34 (by rfl) elemOk_ints (O := fun x => x < wr.heap.size) (l := ((List.range n).take k).map (rangeCost A B i)) (y := rangeCost A B i k) (by rfl) (by rfl) (by simp) hownX ⟨by rw [HRC.out] <;> first | rfl | (congr 2; unfold aloneN; omega), hyi⟩ hOx hlen ?_; intro v' w7 hown7 hc7 _)
                    have hci7 : Chg (fun x => wr.heap.size ≤ x) wr w7 := hciX.trans (hc7.mono (fun x _ hx => by have := own_out hownX x hx; omega))
                    clear hc7 hownX
                    go_wp2_with fail
                    go_roundw
                    case rel => exact ⟨k + 1, by omega, by go_num, hci7, by rw [hrt.out]; exact hown7⟩
                    case measure => simp [intOf] <;> omega
                · have ti : decide ((i : Int) < (p.length : Int)) = false := decide_eq_false (by omega)
                  have tin : decide (i < p.length) = false := decide_eq_false hip
                  by_cases hkq : k < q.length
                  · have tk : decide ((k : Int) < (q.length : Int)) = true := decide_eq_true (by omega)
                    have tkn : decide (k < q.length) = true := decide_eq_true hkq
                    obtain ⟨x, hy⟩ : ∃ y, B[k]? = some y := ⟨B[k]'(by omega), by simp⟩
                    have hyl := hlB x (List.mem_of_getElem? hy)
                    obtain ⟨tb2, toff2, yv, rfl, -, -, d0, hyv⟩ := elems_row t3 (i := p.length + k) (x := x) (by rw [app_right (by omega), show p.length + k - A.length = k by omega]; exact hy)
                    have d0 := hw4i.cellNever d0
                    have HRC : Hid (rangeCost A B i k = (aloneN x : Nat)) := by unfold Hid rangeCost; rw [hy, List.getElem?_eq_none (by omega)]
                    obtain ⟨z, hz⟩ : ∃ z, p.length + k = z := ⟨_, rfl⟩
                    rw [hz] at d0
                    have sz : IntKind.i64.wrap ((p.length : Int) + (k : Int)) = (z : Int) := by rw [show (p.length : Int) + (k : Int) = (z : Int) by omega]; exact IntWalk.i64_in _ (by omega)
                    have iz : (z : Int) < (n : Int) := by have := HN.out; omega
                    obtain ⟨xa, xc, rfl, -, -, -⟩ := rdv_slice hyv
                    have e1 : IntKind.i64.wrap ((x.length : Int) + 1) = ((x.length + 1 : Nat) : Int) := by rw [show (x.length : Int) + 1 = ((x.length + 1 : Nat) : Int) by omega]; exact IntWalk.i64_in _ (by omega)
                    have e2 : (((x.length + 1 : Nat) : Int)).tdiv 2 = (((x.length + 1) / 2 : Nat) : Int) := by rw [Int.tdiv_eq_ediv_of_nonneg (by omega)]; omega
                    have e3 : IntKind.i64.wrap ((((x.length + 1) / 2 : Nat) : Int)) = (((x.length + 1) / 2 : Nat) : Int) := IntWalk.i64_in _ (by omega)
                    have e4 : IntKind.i64.wrap ((((x.length + 1) / 2 : Nat) : Int) + 1) = (aloneN x : Int) := by unfold aloneN; rw [show (((x.length + 1) / 2 : Nat) : Int) + 1 = (((x.length + 1) / 2 + 1 : Nat) : Int) by omega]; exact IntWalk.i64_in _ (by omega)
                    clear t3 hy hyv hz
                    have hownX := hown.never (Chg.refl Never wi)
                    have hciX : Chg (fun x => wr.heap.size ≤ x) wr wi := hci.trans ((Chg.refl Never wi).mono (fun _ _ h => h.elim))
                    have hOx : ∀ x, x < wr.heap.size → x < wi.heap.size := fun x hx => Nat.lt_of_lt_of_le hx hciX.size
                    clear hown hci
                    go_wp2_with (at_builtin; refine wpList_push (by rfl) _ _ 34 (by rfl) elemOk_ints (O := fun x => x < wr.heap.size) (l := ((List.range n).take k).map (rangeCost A B i)) (y := rangeCost A B i k) (by rfl) (by rfl) (by simp) hownX ⟨by rw [HRC.out] <;> first | rfl | (congr 2; unfold aloneN; omega), hyi⟩ hOx hlen ?_; intro v' w7 hown7 hc7 _)
                    have hci7 : Chg (fun x => wr.heap.size ≤ x) wr w7 := hciX.trans (hc7.mono (fun x _ hx => by have := own_out hownX x hx; omega))
                    clear hc7 hownX
                    go_wp2_with fail
                    go_roundw
                    case rel => exact ⟨k + 1, by omega, by go_num, hci7, by rw [hrt.out]; exact hown7⟩
                    case measure => simp [intOf] <;> omega
                  · have tk : decide ((k : Int) < (q.length : Int)) = false := decide_eq_false (by omega)
                    have tkn : decide (k < q.length) = false := decide_eq_false hkq
                    have HRC : Hid (rangeCost A B i k = ((0 : Nat) : Int)) := by unfold Hid rangeCost; rw [List.getElem?_eq_none (by omega), List.getElem?_eq_none (by omega)]; rfl
                    clear t3
                    have hownX := hown.never (Chg.refl Never wi)
                    have hciX : Chg (fun x => wr.heap.size ≤ x) wr wi := hci.trans ((Chg.refl Never wi).mono (fun _ _ h => h.elim))
                    have hOx : ∀ x, x < wr.heap.size → x < wi.heap.size := fun x hx => Nat.lt_of_lt_of_le hx hciX.size
                    clear hown hci
                    go_wp2_with (at_builtin; refine wpList_push (by rfl) _ _ 34 (by rfl) elemOk_ints (O := fun x => x < wr.heap.size) (l := ((List.range n).take k).map (rangeCost A B i)) (y := rangeCost A B i k) (by rfl) (by rfl) (by simp) hownX ⟨by rw [HRC.out] <;> first | rfl | (congr 2; unfold aloneN; omega), hyi⟩ hOx hlen ?_; intro v' w7 hown7 hc7 _)
                    have hci7 : Chg (fun x => wr.heap.size ≤ x) wr w7 := hciX.trans (hc7.mono (fun x _ hx => by have := own_out hownX x hx; omega))
                    clear hc7 hownX
                    go_wp2_with fail
                    go_roundw
                    case rel => exact ⟨k + 1, by omega, by go_num, hci7, by rw [hrt.out]; exact hown7⟩
                    case measure => simp [intOf] <;> omega
              · obtain rfl : n = k := by omega
                have hrowi : ((List.range n).take n).map (rangeCost A B i) = rowOf A B i := by
                  unfold rowOf
                  rw [hAB, List.take_of_length_le (by simp)]
                rw [hrowi] at hown
                have hownC : Own 34 wi (Old w4.heap.size) (.slice va vn vc) (((List.range n).take i).map (rowOf A B)) := hownE.keep hci (fun _ _ hh => .inr hh) (fun _ _ hh => .inl hh)
                have hy : Rdv wi (fun g => Old w4.heap.size g ∨ (Value.slice va vn vc).ownBlock = some g) (.slice ra rn rc) (rowOf A B i) := hown.rdv.sub (fun g _ hg => by
                  rcases hg with hg | hg
                  · unfold Old at hg; have := hc4.size; omega
                  · exact hvl g hg)
                have hlen : (((List.range n).take i).map (rowOf A B)).length ≤ 1000000000 := by rw [List.length_map, List.length_take, List.length_range]; omega
                rw [hAB] at hct
                clear hown hownE hci hrowi hvl t3
                go_wp2_with (at_builtin; refine wpList_push (by rfl) _ _ 87 (by rfl) elemOk_rows (O := Old w4.heap.size) (l := ((List.range n).take i).map (rowOf A B)) (y := rowOf A B i) (by rfl) (by rfl) (by simp) hownC hy (old_lt hw4i) hlen ?_; intro v' w7 hown7 hc7 _)
                have hw7 := own_step hw4i hownC hc7
                clear hownC hy hc7
                go_wp2_with fail
                go_roundw
                case rel => exact ⟨i + 1, by omega, by go_num, hw7, by rw [hct.out]; exact hown7⟩
                case measure => simp [intOf] <;> omega
          · obtain rfl : n = i := by omega
            have hcs : ((List.range n).take n).map (rowOf A B) = costsOf A B := by
              unfold costsOf
              rw [hAB, List.take_of_length_le (by simp)]
            rw [hcs] at hown
            have hmo := matchOf_any (costsOf A B) _ wr (hown.rdv.sub (fun _ _ h => h.elim)) (sq_zero (by rw [costs_len]; omega) (costs_bd hlA hlB))
            rw [← HM.out] at hmo
            have hmo := Lib.hid hmo
            generalize rangeM p q = M at hmo hCho HRL
            have hML : M.length = n := hCho.out.len
            clear hcs hown HM t3 hlA hlB eA eB hAB
            go_wp2_with fail
            refine hmo.out.mono ?_
            rintro e w5 ⟨r5, rfl, hc5, hr5⟩
            have hw5 := ((hc.trans hc4).trans hc5)
            obtain ⟨ma, mcp, rfl, m1, m2, m3⟩ := rdv_slice hr5
            unfold maxLen at m2
            rw [hML]
            clear hmo hr5 hc5 hc4 hc
            go_wp2_with fail
            go_loopw [20, 21] (fun ov jv wr => ∃ j : Nat, j ≤ p.length ∧ jv = .int .i64 j ∧ Chg Never w5 wr ∧ Own 32 wr (Old w5.heap.size) ov (((List.range p.length).take j).map (firstsOf q.length M))) (fun _ jv _ => p.length - (intOf jv).toNat)
            case atStart => exact ⟨0, Nat.zero_le _, rfl, Chg.refl _ _, own_nil _ _ _⟩
            case round =>
              obtain ⟨j, hj, rfl, hc, hown⟩ := hrel
              rename World => wr
              by_cases hjp : j < p.length
              · obtain ⟨c, hx⟩ : ∃ c, M[j]? = some c := ⟨M[j]'(by omega), by simp⟩
                obtain ⟨kc, rfl, hkc⟩ := hCho.out.mem c (List.mem_of_getElem? hx)
                obtain ⟨b, off, rfl, -, cM, hyi⟩ := elems_ints m3 hx
                have cM := hc.cellNever cM
                have ib : (j : Int) < (n : Int) := by omega
                have hgd : M.getD j 0 = (kc : Int) := by rw [List.getD_eq_getElem?_getD, hx]; rfl
                have hft0 := firsts_take (a := p.length) (b := q.length) (m := M) hjp
                have hlen : (((List.range p.length).take j).map (firstsOf q.length M)).length ≤ 1000000000 := by rw [List.length_map, List.length_take, List.length_range]; omega
                by_cases hkq : kc < q.length
                · have tk : decide ((q.length : Int) ≤ (kc : Int)) = false := decide_eq_false (by omega)
                  have tkn : decide (q.length ≤ kc) = false := decide_eq_false (by omega)
                  have hft : Hid (((List.range p.length).take (j + 1)).map (firstsOf q.length M) = ((List.range p.length).take j).map (firstsOf q.length M) ++ [((j : Int), (kc : Int))]) := by rw [Hid, hft0, firstsOf, hgd, if_pos (by omega)]
                  clear hft0 hx m3 hgd
                  go_wp2_with (at_builtin; refine wpList_push (by rfl) _ _ 23 (by rfl) elemOk_pair (O := Old w5.heap.size) (l := ((List.range p.length).take j).map (firstsOf q.length M)) (y := ((j : Int), (kc : Int))) (by rfl) (by rfl) (by simp) hown rfl (old_lt hc) hlen ?_; intro v' w7 hown7 hc7 _)
                  have hw7 := own_step hc hown hc7
                  go_wp2_with fail
                  go_roundw
                  case rel => exact ⟨j + 1, by omega, by go_num, hw7, by rw [hft.out]; exact hown7⟩
                  case measure => simp [intOf] <;> omega
                · have tk : decide ((q.length : Int) ≤ (kc : Int)) = true := decide_eq_true (by omega)
                  have tkn : decide (q.length ≤ kc) = true := decide_eq_true (by omega)
                  have hft : Hid (((List.range p.length).take (j + 1)).map (firstsOf q.length M) = ((List.range p.length).take j).map (firstsOf q.length M) ++ [((j : Int), (-1 : Int))]) := by rw [Hid, hft0, firstsOf, hgd, if_neg (by omega)]
                  clear hft0 hx m3 hgd
                  go_wp2_with (at_builtin; refine wpList_push (by rfl) _ _ 23 (by rfl) elemOk_pair (O := Old w5.heap.size) (l := ((List.range p.length).take j).map (firstsOf q.length M)) (y := ((j : Int), (-1 : Int))) (by rfl) (by rfl) (by simp) hown rfl (old_lt hc) hlen ?_; intro v' w7 hown7 hc7 _)
                  have hw7 := own_step hc hown hc7
                  go_wp2_with fail
                  go_roundw
                  case rel => exact ⟨j + 1, by omega, by go_num, hw7, by rw [hft.out]; exact hown7⟩
                  case measure => simp [intOf] <;> omega
              · obtain rfl : j = p.length := by omega
                have hft : ((List.range p.length).take p.length).map (firstsOf q.length M) = (List.range p.length).map (firstsOf q.length M) := by rw [List.take_of_length_le (by simp)]
                rw [hft] at hown
                clear hft
                rename World => w6
                go_wp2_with fail
                go_loopw [20, 23] (fun ov kv wz => ∃ k : Nat, k ≤ q.length ∧ kv = .int .i64 k ∧ Chg Never w5 wz ∧ Own 32 wz (Old w5.heap.size) ov ((List.range p.length).map (firstsOf q.length M) ++ (((List.range q.length).take k).filter fun (c : Nat) => decide ((c : Int) ∈ M.drop p.length)).map fun (c : Nat) => ((-1 : Int), (c : Int)))) (fun _ kv _ => q.length - (intOf kv).toNat)
                case atStart => exact ⟨0, Nat.zero_le _, rfl, hc, by simpa using hown⟩
                case round =>
                  clear hown hc
                  obtain ⟨k, hk, rfl, hc, hown⟩ := hrel
                  rename World => wz
                  obtain ⟨va, vn, vc, rfl⟩ := own_isSlice hown
                  by_cases hkq : k < q.length
                  · have hth := thens_take (b := q.length) (k := k) (fun (c : Nat) => decide ((c : Int) ∈ M.drop p.length)) hkq
                    have hLn : ((List.range p.length).map (firstsOf q.length M) ++ (((List.range q.length).take k).filter fun (c : Nat) => decide ((c : Int) ∈ M.drop p.length)).map fun (c : Nat) => ((-1 : Int), (c : Int))).length ≤ 1000 := by
                      rw [List.length_append, List.length_map, List.length_map, List.length_range]
                      have := List.length_filter_le (fun (c : Nat) => decide ((c : Int) ∈ M.drop p.length)) ((List.range q.length).take k)
                      rw [List.length_take] at this
                      omega
                    obtain ⟨LL, hLL⟩ : ∃ LL, ((List.range p.length).map (firstsOf q.length M) ++ (((List.range q.length).take k).filter fun (c : Nat) => decide ((c : Int) ∈ M.drop p.length)).map fun (c : Nat) => ((-1 : Int), (c : Int))) = LL := ⟨_, rfl⟩
                    rw [hLL] at hLn hown
                    have HTL : Hid ((List.range p.length).map (firstsOf q.length M) ++ (((List.range q.length).take (k + 1)).filter fun (c : Nat) => decide ((c : Int) ∈ M.drop p.length)).map (fun (c : Nat) => ((-1 : Int), (c : Int))) = LL ++ ((M.drop p.length).filter (· == (k : Int))).map fun (c : Int) => ((-1 : Int), c)) := by
                      have hnd : (M.drop p.length).Nodup := by
                        have := hCho.out.nodup
                        rw [← List.take_append_drop p.length M, List.nodup_append] at this
                        exact this.2.1
                      rw [Hid, ← hLL, hth, ← List.append_assoc, filter_eq_of_nodup _ hnd]
                      by_cases hm : (k : Int) ∈ M.drop p.length
                      · rw [if_pos (by simpa using hm), if_pos hm]; rfl
                      · rw [if_neg (by simpa using hm), if_neg hm]; rfl
                    clear hLL hth
                    go_wp2_with fail
                    go_loopw [20, 24] (fun ov iv wy => ∃ i : Nat, p.length ≤ i ∧ i ≤ n ∧ iv = .int .i64 i ∧ Chg Never w5 wy ∧ Own 32 wy (Old w5.heap.size) ov (LL ++ (((M.drop p.length).take (i - p.length)).filter (· == (k : Int))).map fun (c : Int) => ((-1 : Int), c))) (fun _ iv _ => n - (intOf iv).toNat)
                    case atStart => exact ⟨p.length, Nat.le_refl _, hpn, rfl, hc, by simpa using hown⟩
                    case round =>
                      clear hown hc
                      obtain ⟨i, hpi, hi, rfl, hc, hown⟩ := hrel
                      rename World => wy
                      obtain ⟨ua, un, uc, rfl⟩ := own_isSlice hown
                      by_cases hin : i < n
                      · obtain ⟨c, hx⟩ : ∃ c, M[i]? = some c := ⟨M[i]'(by omega), by simp⟩
                        obtain ⟨b, off, rfl, -, cM, hyi⟩ := elems_ints m3 hx
                        have cM := hc.cellNever cM
                        have ib : (i : Int) < (n : Int) := by omega
                        have hfk := filt_take (k := (k : Int)) hx hpi
                        have hlen : (LL ++ (((M.drop p.length).take (i - p.length)).filter (· == (k : Int))).map fun (c : Int) => ((-1 : Int), c)).length ≤ 1000000000 := by
                          rw [List.length_append, List.length_map]
                          have := List.length_filter_le (fun (x : Int) => x == (k : Int)) ((M.drop p.length).take (i - p.length))
                          rw [List.length_take, List.length_drop] at this
                          omega
                        obtain ⟨LM, hLM⟩ : ∃ LM, (LL ++ (((M.drop p.length).take (i - p.length)).filter (· == (k : Int))).map fun (c : Int) => ((-1 : Int), c)) = LM := ⟨_, rfl⟩
                        rw [hLM] at hlen hown
                        by_cases hck : c = (k : Int)
                        · have tc : (c == (k : Int)) = true := by simpa using hck
                          have HFK : Hid (LL ++ (((M.drop p.length).take (i + 1 - p.length)).filter (· == (k : Int))).map (fun (c : Int) => ((-1 : Int), c)) = LM ++ [((-1 : Int), (k : Int))]) := by rw [Hid, hfk, if_pos hck, List.map_append, ← List.append_assoc, hLM]; rfl
                          clear hfk hLM hx m3 hck
                          go_wp2_with (at_builtin; refine wpList_push (by rfl) _ _ 23 (by rfl) elemOk_pair (O := Old w5.heap.size) (l := LM) (y := ((-1 : Int), (k : Int))) (by rfl) (by rfl) (by simp) hown rfl (old_lt hc) hlen ?_; intro v' w7 hown7 hc7 _)
                          have hw7 := own_step hc hown hc7
                          clear hc7 hown
                          go_wp2_with fail
                          go_roundw
                          case rel => exact ⟨i + 1, by omega, by omega, by go_num, hw7, by rw [HFK.out]; exact hown7⟩
                          case measure => simp [intOf] <;> omega
                        · have tc : (c == (k : Int)) = false := by simpa using hck
                          have HFK : Hid (LL ++ (((M.drop p.length).take (i + 1 - p.length)).filter (· == (k : Int))).map (fun (c : Int) => ((-1 : Int), c)) = LM) := by rw [Hid, hfk, if_neg hck, List.append_nil, hLM]
                          clear hfk hLM hx m3 hck
                          go_wp2_with fail
                          go_roundw
                          case rel => exact ⟨i + 1, by omega, by omega, by go_num, hc, by rw [HFK.out]; exact hown⟩
                          case measure => simp [intOf] <;> omega
                      · rw [List.take_of_length_le (by rw [List.length_drop]; omega)] at hown
                        clear m3
                        go_wp2_with fail
                        go_roundw
                        case rel => exact ⟨k + 1, by omega, by go_num, hc, by rw [HTL.out]; exact hown⟩
                        case measure => simp [intOf] <;> omega
                  · rw [List.take_of_length_le (by rw [List.length_range]; omega)] at hown
                    have hr : Rdv wz Never (.slice va vn vc) (rangeOut p.length q.length M) := hown.rdv.sub (fun _ _ h => h.elim)
                    have hcf := hw5.trans hc
                    clear hown m3
                    go_wp2_with fail
                    go_ret2
                    exact ⟨_, by rw [HFZ.out]; rfl, hcf, by rw [HRL.out]; exact hr⟩
end Go.Proofs.YtgabchhplmncnaaGreatDoor
namespace Go.Proofs.YtgabchhplmncnaaGreatDoor
open Go.RowKit

theorem pair_size (w : World) : (sizeOf 3).run Tryz.prog w = .ok 1 w := by kernel_rfl
theorem pair_part0 (w : World) (a b : Int) : (part 3 #[.int .i64 a, .int .i64 b] 0).run Tryz.prog w = .ok (.int .i64 a) w := by simp [part, go_sem]
theorem pair_part1 (w : World) (a b : Int) : (part 3 #[.int .i64 a, .int .i64 b] 1).run Tryz.prog w = .ok (.int .i64 b) w := by simp [part, go_sem]
theorem pair_eqD {P : Program} {t e : TypeId} (hu : P.underlying t = some (.array 2 e)) (he : P.underlying e = some (.int .i64)) (hs : ∀ w, (sizeOf e).run P w = .ok 1 w)
    (h0 : ∀ w a b, (part e #[.int .i64 a, .int .i64 b] 0).run P w = .ok (.int .i64 a) w) (h1 : ∀ w a b, (part e #[.int .i64 a, .int .i64 b] 1).run P w = .ok (.int .i64 b) w) (k : Nat) (w : World) (a b c d : Int) :
    (Op.equalIn (k + 2) t (.agg #[.int .i64 a, .int .i64 b]) (.agg #[.int .i64 c, .int .i64 d])).run P w = .ok (a == c && b == d) w := by
  have hI : ∀ w (x y : Int), (Op.equalIn (k + 1) e (.int .i64 x) (.int .i64 y)).run P w = .ok (x == y) w := fun w x y => run_equalIn_int w k e .i64 .i64 x y he
  rw [show k + 2 = (k + 1) + 1 from rfl]
  generalize k + 1 = m at hI
  rw [Op.equalIn]
  simp only [Sem.run_bind, run_underlying hu, Result.andThen_ok, hs]
  have hr : List.range' 0 2 1 = [0, 1] := rfl
  by_cases e1 : a = c <;> by_cases e2 : b = d <;>
    simp [Std.Legacy.Range.forIn_eq_forIn_range', Std.Legacy.Range.size, hr, h0, h1, hI, e1, e2, Sem.run_bind, Sem.run_pure, Result.andThen_ok, List.forIn_cons, List.forIn_nil]
theorem pair_eq (w : World) (a b c d : Int) :
    (Op.equalIn 10000 32 (.agg #[.int .i64 a, .int .i64 b]) (.agg #[.int .i64 c, .int .i64 d])).run Tryz.prog w = .ok (a == c && b == d) w :=
  pair_eqD Tryz.underlying32 Tryz.underlying3 pair_size pair_part0 pair_part1 9998 w a b c d
theorem elems_pair {w : World} {O : Nat → Prop} {a : Option Addr} {l : List (Int × Int)} (h : Elems w O a l) {i : Nat} {x : Int × Int} (hx : l[i]? = some x) :
    ∃ b off, a = some ⟨b, off, none⟩ ∧ ¬ O b ∧ w.cell? ⟨b, off + i * 2, none⟩ = some (.int .i64 x.1) ∧ w.cell? ⟨b, off + i * 2 + 1, none⟩ = some (.int .i64 x.2) := by
  obtain ⟨b, off, es, ha, hb, hcs, rfl⟩ := h i x hx
  refine ⟨b, off, ha, hb, ?_, ?_⟩
  · simpa [Dat.n] using hcs 0 _ rfl
  · simpa [Dat.n] using hcs 1 _ rfl
end Go.Proofs.YtgabchhplmncnaaGreatDoor
namespace Go.Proofs.YtgabchhplmncnaaGreatDoor
open Go.RowKit

set_option maxHeartbeats 2000000 in
set_option maxRecDepth 100000 in
theorem law_rangeIs (p q : List (List Change)) (vp vq : Value) (w : World) (hp : Rdv w Never vp p) (hq : Rdv w Never vq q) (m : Int) (hm : w.cell? ⟨1, 0, none⟩ = some (.int .i64 m)) (hgt : w.cell? ⟨0, 0, none⟩ = some errT) :
    Calls Tryz.prog 3 #[vp, vq] w fun e w' => e = .returned (.bool true) ∧ Chg Never w w' := by
  have hp0 := hp
  have hq0 := hq
  obtain ⟨a0, ca, rfl, a1, a2, -⟩ := rdv_slice hp
  obtain ⟨b0, cb, rfl, b1, b2, -⟩ := rdv_slice hq
  unfold maxLen at a2 b2
  by_cases h1 : p.length ≤ 4
  · have t1 : decide ((p.length : Int) ≤ 4) = true := decide_eq_true (by omega)
    have t1n : decide (p.length ≤ 4) = true := decide_eq_true h1
    by_cases h2 : q.length ≤ 4
    · have t2 : decide ((q.length : Int) ≤ 4) = true := decide_eq_true (by omega)
      have t2n : decide (q.length ≤ 4) = true := decide_eq_true h2
      obtain ⟨s, hs⟩ : ∃ s, p.length + q.length = s := ⟨_, rfl⟩
      have es : (p.length : Int) + (q.length : Int) = (s : Int) := by omega
      have ew : IntKind.i64.wrap (s : Int) = s := IntWalk.i64_in _ (by omega)
      by_cases h3 : 6 < s
      · have t3 : decide ((6 : Int) < (s : Int)) = true := decide_eq_true (by omega)
        have t3n : decide (6 < s) = true := decide_eq_true h3
        clear hs
        go_enter Tryz.func3, Tryz.ntmps3
        go_wp2_with fail
        go_ret
        exact ⟨rfl, Chg.refl _ _⟩
      · have t3 : decide ((6 : Int) < (s : Int)) = false := decide_eq_false (by omega)
        have t3n : decide (6 < s) = false := decide_eq_false h3
        clear hs
        go_enter Tryz.func3, Tryz.ntmps3
        go_wp2_with fail
        refine (refRange_any p q _ _ _ hp0 hq0).mono ?_
        rintro e w1 ⟨r1, rfl, hc1, hr1⟩
        go_wp2_with fail
        refine (range_any p q _ _ _ (hp0.never hc1) (hq0.never hc1) m (hc1.cellNever hm)).mono ?_
        rintro e w2 ⟨r2, rfl, hc2, hr2⟩
        have hw2 := hc1.trans hc2
        have hr1 := hr1.never hc2
        generalize rangeFault p q = fz
        generalize rangeL p q = L at hr1 hr2
        go_wp2_with fail
        refine (error_any fz fz _ (hw2.cellNever hgt)).mono ?_
        rintro e w3 ⟨rfl, hc3⟩
        rw [show (fz == fz) = true by simp]
        have hw3 := hw2.trans hc3
        have hr1 := hr1.never hc3
        have hr2 := hr2.never hc3
        obtain ⟨xa, xc, rfl, x1, x2, x3⟩ := rdv_slice hr1
        obtain ⟨ya, yc, rfl, y1, y2, y3⟩ := rdv_slice hr2
        unfold maxLen at x2 y2
        have tl : ((L.length : Int) != (L.length : Int)) = false := by simp
        have tl2 : ((L.length : Int) == (L.length : Int)) = true := by simp
        clear hr1 hr2 hc1 hc2 hc3 hw2
        go_wp2_with fail
        go_loopw [10] (fun iv wr => ∃ i : Nat, i ≤ L.length ∧ iv = .int .i64 i ∧ Chg Never w3 wr) (fun iv _ => L.length - (intOf iv).toNat)
        case atStart => exact ⟨0, Nat.zero_le _, rfl, Chg.refl _ _⟩
        case round =>
          obtain ⟨i, hi, rfl, hc⟩ := hrel
          rename World => wr
          by_cases hlt : i < L.length
          · obtain ⟨⟨z1, z2⟩, hx⟩ : ∃ z, L[i]? = some z := ⟨L[i], by simp [hlt]⟩
            obtain ⟨b, off, rfl, -, c1, c2⟩ := elems_pair x3 hx
            obtain ⟨b', off', rfl, -, d1, d2⟩ := elems_pair y3 hx
            have c1 := hc.cellNever c1
            have c2 := hc.cellNever c2
            have d1 := hc.cellNever d1
            have d2 := hc.cellNever d2
            have ib : (i : Int) < (L.length : Int) := by omega
            have pe : ∀ wx, (Op.equalIn 10000 32 (.agg #[.int .i64 z1, .int .i64 z2]) (.agg #[.int .i64 z1, .int .i64 z2])).run Tryz.prog wx = .ok true wx := fun wx => by rw [pair_eq]; simp
            clear x3 y3 hx
            go_wp2_with fail
            go_quiet (fail)
            go_wp2_with fail
            go_roundw
            case rel => exact ⟨i + 1, by omega, by go_num, hc.drewN _⟩
            case measure => simp [intOf]; omega
          · clear x3 y3
            go_wp2_with fail
            go_ret
            exact ⟨rfl, hw3.trans hc⟩
    · have t2 : decide ((q.length : Int) ≤ 4) = false := decide_eq_false (by omega)
      have t2n : decide (q.length ≤ 4) = false := decide_eq_false h2
      go_enter Tryz.func3, Tryz.ntmps3
      go_wp2_with fail
      refine (refRange_any p q _ _ _ hp0 hq0).mono ?_
      rintro e w1 ⟨r1, rfl, hc1, hr1⟩
      go_wp2_with fail
      refine (range_any p q _ _ _ (hp0.never hc1) (hq0.never hc1) m (hc1.cellNever hm)).mono ?_
      rintro e w2 ⟨r2, rfl, hc2, hr2⟩
      have hw2 := hc1.trans hc2
      have hr1 := hr1.never hc2
      generalize rangeFault p q = fz
      generalize rangeL p q = L at hr1 hr2
      go_wp2_with fail
      refine (error_any fz fz _ (hw2.cellNever hgt)).mono ?_
      rintro e w3 ⟨rfl, hc3⟩
      rw [show (fz == fz) = true by simp]
      have hw3 := hw2.trans hc3
      have hr1 := hr1.never hc3
      have hr2 := hr2.never hc3
      obtain ⟨xa, xc, rfl, x1, x2, x3⟩ := rdv_slice hr1
      obtain ⟨ya, yc, rfl, y1, y2, y3⟩ := rdv_slice hr2
      unfold maxLen at x2 y2
      have tl : ((L.length : Int) != (L.length : Int)) = false := by simp
      have tl2 : ((L.length : Int) == (L.length : Int)) = true := by simp
      clear hr1 hr2 hc1 hc2 hc3 hw2
      go_wp2_with fail
      go_loopw [10] (fun iv wr => ∃ i : Nat, i ≤ L.length ∧ iv = .int .i64 i ∧ Chg Never w3 wr) (fun iv _ => L.length - (intOf iv).toNat)
      case atStart => exact ⟨0, Nat.zero_le _, rfl, Chg.refl _ _⟩
      case round =>
        obtain ⟨i, hi, rfl, hc⟩ := hrel
        rename World => wr
        by_cases hlt : i < L.length
        · obtain ⟨⟨z1, z2⟩, hx⟩ : ∃ z, L[i]? = some z := ⟨L[i], by simp [hlt]⟩
          obtain ⟨b, off, rfl, -, c1, c2⟩ := elems_pair x3 hx
          obtain ⟨b', off', rfl, -, d1, d2⟩ := elems_pair y3 hx
          have c1 := hc.cellNever c1
          have c2 := hc.cellNever c2
          have d1 := hc.cellNever d1
          have d2 := hc.cellNever d2
          have ib : (i : Int) < (L.length : Int) := by omega
          have pe : ∀ wx, (Op.equalIn 10000 32 (.agg #[.int .i64 z1, .int .i64 z2]) (.agg #[.int .i64 z1, .int .i64 z2])).run Tryz.prog wx = .ok true wx := fun wx => by rw [pair_eq]; simp
          clear x3 y3 hx
          go_wp2_with fail
          go_quiet (fail)
          go_wp2_with fail
          go_roundw
          case rel => exact ⟨i + 1, by omega, by go_num, hc.drewN _⟩
          case measure => simp [intOf]; omega
        · clear x3 y3
          go_wp2_with fail
          go_ret
          exact ⟨rfl, hw3.trans hc⟩
  · have t1 : decide ((p.length : Int) ≤ 4) = false := decide_eq_false (by omega)
    have t1n : decide (p.length ≤ 4) = false := decide_eq_false h1
    go_enter Tryz.func3, Tryz.ntmps3
    go_wp2_with fail
    refine (refRange_any p q _ _ _ hp0 hq0).mono ?_
    rintro e w1 ⟨r1, rfl, hc1, hr1⟩
    go_wp2_with fail
    refine (range_any p q _ _ _ (hp0.never hc1) (hq0.never hc1) m (hc1.cellNever hm)).mono ?_
    rintro e w2 ⟨r2, rfl, hc2, hr2⟩
    have hw2 := hc1.trans hc2
    have hr1 := hr1.never hc2
    generalize rangeFault p q = fz
    generalize rangeL p q = L at hr1 hr2
    go_wp2_with fail
    refine (error_any fz fz _ (hw2.cellNever hgt)).mono ?_
    rintro e w3 ⟨rfl, hc3⟩
    rw [show (fz == fz) = true by simp]
    have hw3 := hw2.trans hc3
    have hr1 := hr1.never hc3
    have hr2 := hr2.never hc3
    obtain ⟨xa, xc, rfl, x1, x2, x3⟩ := rdv_slice hr1
    obtain ⟨ya, yc, rfl, y1, y2, y3⟩ := rdv_slice hr2
    unfold maxLen at x2 y2
    have tl : ((L.length : Int) != (L.length : Int)) = false := by simp
    have tl2 : ((L.length : Int) == (L.length : Int)) = true := by simp
    clear hr1 hr2 hc1 hc2 hc3 hw2
    go_wp2_with fail
    go_loopw [10] (fun iv wr => ∃ i : Nat, i ≤ L.length ∧ iv = .int .i64 i ∧ Chg Never w3 wr) (fun iv _ => L.length - (intOf iv).toNat)
    case atStart => exact ⟨0, Nat.zero_le _, rfl, Chg.refl _ _⟩
    case round =>
      obtain ⟨i, hi, rfl, hc⟩ := hrel
      rename World => wr
      by_cases hlt : i < L.length
      · obtain ⟨⟨z1, z2⟩, hx⟩ : ∃ z, L[i]? = some z := ⟨L[i], by simp [hlt]⟩
        obtain ⟨b, off, rfl, -, c1, c2⟩ := elems_pair x3 hx
        obtain ⟨b', off', rfl, -, d1, d2⟩ := elems_pair y3 hx
        have c1 := hc.cellNever c1
        have c2 := hc.cellNever c2
        have d1 := hc.cellNever d1
        have d2 := hc.cellNever d2
        have ib : (i : Int) < (L.length : Int) := by omega
        have pe : ∀ wx, (Op.equalIn 10000 32 (.agg #[.int .i64 z1, .int .i64 z2]) (.agg #[.int .i64 z1, .int .i64 z2])).run Tryz.prog wx = .ok true wx := fun wx => by rw [pair_eq]; simp
        clear x3 y3 hx
        go_wp2_with fail
        go_quiet (fail)
        go_wp2_with fail
        go_roundw
        case rel => exact ⟨i + 1, by omega, by go_num, hc.drewN _⟩
        case measure => simp [intOf]; omega
      · clear x3 y3
        go_wp2_with fail
        go_ret
        exact ⟨rfl, hw3.trans hc⟩
end Go.Proofs.YtgabchhplmncnaaGreatDoor
