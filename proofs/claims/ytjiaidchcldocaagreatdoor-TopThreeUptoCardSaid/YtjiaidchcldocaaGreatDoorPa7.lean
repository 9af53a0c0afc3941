/-
  PARTS: THE WALKS of hunk.Cut, Turned, Turn.; append OF A WHOLE SLICE to one of the call's own; a slice's slice. No program in sight.; THE WALKS OF LAYER 4: hunk.Make, sides, slices.Equal, stands.; THE WALKS OF LAYER 4: slices.Grow of nil, slices.Concat.; THE WALK of apply.Strict.; THE WALKS of the document's NewOf, OldOf.; THE WALKS of the document's LineFault, LinesFault, ScriptFault.; A SLICE OF A SLICE, as a run, at whatever element type.; TEXTS IN PARTS: small laws on rows of strings (light: no function of layers 1 to 9).; THE WALKS of the document's Parts, SplitOf, JoinOf, and of line.Split, line.Join.; THE WALKS of line.letter, line.Path, and of the document's PathFault.; THE WALKS of tree.Check and of the document's TreeFault, Place.
-/
import Derived.Test.YtjiaidchcldocaaGreatDoorPa6
import Derived.Test.YtjiaidchcldocaaGreatDoorPa4
import Derived.Test.YtjiaidchcldocaaGreatDoorPa2
import Derived.WalkLawsBesides
import Derived.Lib.Walk
import Derived.Lib.SliceRun
import Derived.Lib.AppendZerosOnto
import Derived.Test.YtjiaidchcldocaaGreatDoorPa1
import Derived.Lib.SplitLaws
set_option linter.unusedVariables false
set_option linter.unusedSimpArgs false
namespace Go.Proofs.YtjiaidchcldocaaGreatDoor
open Go.RowKit

def cutR (s : List Mark) (n : Int) : List Hunk := if cutFault s n = 0 then cutOf s n else []

set_option maxHeartbeats 800000 in
theorem Cut_any (s : List Mark) (n : Int) (v : Value) (w : World) (hs : Rdv w Never v s) (hn : I64 n) :
    Calls Tryz.prog 111 #[v, .int .i64 n] w fun e w' => ∃ r, e = .returned (.tuple #[r, errV (cutFault s n)]) ∧ Chg Never w w' ∧ Rdv w' (Old w.heap.size) r (cutR s n) := by
  obtain ⟨sa, scap, rfl, _, _, _⟩ := rdv_slice hs
  by_cases h1 : scriptFault s = 0
  · have hlen := scriptFault_len h1
    have H1 := Lib.hid h1
    have l1 := oldN_le s
    have l2 := newN_le s
    by_cases h2 : n < 0
    · have E : Hid (cutFault s n = 1) := by unfold cutFault Hid; rw [if_neg (by simp [h1]), if_pos (.inl h2)]
      clear h1
      go_enter Tryz.func111, Tryz.ntmps111
      go_wp2_with fail
      refine (edit_check_any s _ _ hs).mono ?_
      rintro e w1 ⟨rfl, hc1⟩
      rw [H1.out, errV_zero]
      go_wp2_with fail
      go_ret2
      exact ⟨.slice none 0 0, by rw [E.out]; rfl, hc1, by unfold cutR; rw [if_neg (by rw [E.out]; decide)]; exact rdv_nil _ _⟩
    · by_cases h3 : 1000 < n
      · have E : Hid (cutFault s n = 1) := by unfold cutFault Hid; rw [if_neg (by simp [h1]), if_pos (.inr h3)]
        clear h1
        go_enter Tryz.func111, Tryz.ntmps111
        go_wp2_with fail
        refine (edit_check_any s _ _ hs).mono ?_
        rintro e w1 ⟨rfl, hc1⟩
        rw [H1.out, errV_zero]
        go_wp2_with fail
        go_ret2
        exact ⟨.slice none 0 0, by rw [E.out]; rfl, hc1, by unfold cutR; rw [if_neg (by rw [E.out]; decide)]; exact rdv_nil _ _⟩
      · by_cases h4 : 60 < oldN s ∨ 60 < newN s
        · have E : Hid (cutFault s n = 3) := by unfold cutFault Hid; rw [if_neg (by simp [h1]), if_neg (by omega), if_pos h4]
          clear h1
          rcases (show 60 < oldN s ∨ oldN s ≤ 60 ∧ 60 < newN s by omega) with h5 | ⟨h5, h6⟩
          all_goals
            clear h4
            have t1 : decide (n < 0) = false := by simp; omega
            have t2 : decide (1000 < n) = false := by simp; omega
            go_enter Tryz.func111, Tryz.ntmps111
            go_wp2_with fail
            refine (edit_check_any s _ _ hs).mono ?_
            rintro e w1 ⟨rfl, hc1⟩
            rw [H1.out, errV_zero]
            go_wp2_with fail
            refine (size_any ⟨0, 0, s⟩ _ _ (hs.never hc1)).mono ?_
            rintro e w2 ⟨rfl, hc2⟩
            go_wp2_with fail
            go_ret2
            exact ⟨.slice none 0 0, by rw [E.out]; rfl, hc1.trans hc2, by unfold cutR; rw [if_neg (by rw [E.out]; decide)]; exact rdv_nil _ _⟩
        · have E : Hid (cutFault s n = 0) := by unfold cutFault Hid; rw [if_neg (by simp [h1]), if_neg (by omega), if_neg h4]
          clear h1
          have t1 : decide (n < 0) = false := by simp; omega
          have t2 : decide (1000 < n) = false := by simp; omega
          have h5 : oldN s ≤ 60 := by omega
          have h6 : newN s ≤ 60 := by omega
          clear h4
          go_enter Tryz.func111, Tryz.ntmps111
          go_wp2_with fail
          refine (edit_check_any s _ _ hs).mono ?_
          rintro e w1 ⟨rfl, hc1⟩
          rw [H1.out, errV_zero]
          go_wp2_with fail
          refine (size_any ⟨0, 0, s⟩ _ _ (hs.never hc1)).mono ?_
          rintro e w2 ⟨rfl, hc2⟩
          have hw := hc1.trans hc2
          go_wp2_with fail
          refine (cut_any s n _ _ (hs.never hw) hlen (by omega) (by omega)).mono ?_
          rintro e w3 ⟨r, rfl, hc3, hr⟩
          go_wp2_with fail
          go_ret2
          exact ⟨r, by rw [E.out]; rfl, hw.trans hc3, by unfold cutR; rw [if_pos E.out]; exact hr.sub (fun k hk h => Nat.lt_of_lt_of_le h hw.size)⟩
  · have E : Hid (cutFault s n = scriptFault s) := by unfold cutFault Hid; rw [if_pos h1]
    go_enter Tryz.func111, Tryz.ntmps111
    go_wp2_with fail
    refine (edit_check_any s _ _ hs).mono ?_
    rintro e w1 ⟨rfl, hc1⟩
    rw [errV_pos h1]
    go_wp2_with fail
    go_ret2
    exact ⟨.slice none 0 0, by rw [E.out, errV_pos h1]; rfl, hc1, by unfold cutR; rw [if_neg (by rw [E.out]; exact h1)]; exact rdv_nil _ _⟩

/-! ### turned -/

theorem map_take {l : List Mark} {k : Nat} {x : Mark} (hx : l[k]? = some x) : (l.take (k + 1)).map turnMark = (l.take k).map turnMark ++ [turnMark x] := by
  rw [List.take_add_one, hx]; simp


set_option maxHeartbeats 800000 in
theorem turned_any (h : Hunk) (mv : Value) (w : World) (hm : Rdv w Never mv h.marks) (hl : h.marks.length ≤ 120) :
    Calls Tryz.prog 131 #[.agg #[.int .i64 h.old, .int .i64 h.new, mv]] w fun e w' => ∃ r, e = .returned (.agg #[.int .i64 h.new, .int .i64 h.old, r]) ∧ Chg Never w w' ∧ Rdv w' (Old w.heap.size) r (h.marks.map turnMark) := by
  obtain ⟨o, n, l⟩ := h
  simp only at hm hl ⊢
  obtain ⟨a, cap, rfl, h1, h2, h3⟩ := rdv_slice hm
  unfold maxLen at h2
  go_enter Tryz.func131, Tryz.ntmps131
  have hT : Chg Never w (((w.alloc (.cells #[.int .i64 o, .int .i64 n, .slice a l.length cap] 129)).alloc (.cells #[.int .i64 0, .int .i64 0, .slice none 0 0] 129)).alloc (.cells #[.int .i64 n, .int .i64 o, .slice none 0 0] 129)) := (((Chg.refl Never w).alloc _).alloc _).alloc _
  have hR : Blk3 (((w.alloc (.cells #[.int .i64 o, .int .i64 n, .slice a l.length cap] 129)).alloc (.cells #[.int .i64 0, .int .i64 0, .slice none 0 0] 129)).alloc (.cells #[.int .i64 n, .int .i64 o, .slice none 0 0] 129)) (w.heap.size + 1) 129 (.int .i64 0) (.int .i64 0) (.slice none 0 0) := by
    have := Blk3.new (w.alloc (.cells #[.int .i64 o, .int .i64 n, .slice a l.length cap] 129)) 129 (.int .i64 0) (.int .i64 0) (.slice none 0 0)
    rw [World.size_alloc] at this
    exact this.keep (O := Never) ((Chg.refl _ _).alloc _) (fun h => h)
  have hP : Blk3 (((w.alloc (.cells #[.int .i64 o, .int .i64 n, .slice a l.length cap] 129)).alloc (.cells #[.int .i64 0, .int .i64 0, .slice none 0 0] 129)).alloc (.cells #[.int .i64 n, .int .i64 o, .slice none 0 0] 129)) (w.heap.size + 1 + 1) 129 (.int .i64 n) (.int .i64 o) (.slice none 0 0) := by
    have := Blk3.new ((w.alloc (.cells #[.int .i64 o, .int .i64 n, .slice a l.length cap] 129)).alloc (.cells #[.int .i64 0, .int .i64 0, .slice none 0 0] 129)) 129 (.int .i64 n) (.int .i64 o) (.slice none 0 0)
    rw [World.size_alloc, World.size_alloc] at this
    exact this
  go_wp2_with fail
  go_loopw [14, 20, 23] (fun i _ _ wr => ∃ (k : Nat) (mv : Value), k ≤ l.length ∧ i = .int .i64 k ∧ Chg Never w wr ∧ Blk3 wr (w.heap.size + 1) 129 (.int .i64 0) (.int .i64 0) (.slice none 0 0) ∧ Blk3 wr (w.heap.size + 1 + 1) 129 (.int .i64 n) (.int .i64 o) mv ∧
      Own 126 wr (Old (w.heap.size + 3)) mv ((l.take k).map turnMark)) (fun i _ _ _ => l.length - (intOf i).toNat)
  case atStart => exact ⟨0, .slice none 0 0, Nat.zero_le _, rfl, hT, hR, hP, own_nil _ _ _⟩
  case round =>
    clear hT hR hP
    obtain ⟨k, mv, hk, rfl, hc, hR, hP, hown⟩ := hrel
    by_cases hlt : k < l.length
    · obtain ⟨x, hx⟩ : ∃ x, l[k]? = some x := ⟨l[k], by simp [hlt]⟩
      obtain ⟨b, off, rfl, _, _, c0, c1, s0, s1, hxs⟩ := elems_mark h3 hx
      have c0 := hc.cellNever c0
      have c1 := hc.cellNever c1
      have HM := Lib.hid (map_take hx)
      have hlen : ((l.take k).map turnMark).length ≤ 1000000000 := by rw [List.length_map, List.length_take]; omega
      have hO : ∀ j, Old (w.heap.size + 3) j → j < wr.heap.size := by
        intro j hj
        have := hP.lt
        unfold Old at hj
        omega
      clear hx h3 hm
      obtain ⟨sg, tx⟩ := x
      simp only at c0 c1 s0 s1 hxs
      obtain ⟨p0, p1, p2⟩ := hP.cell
      by_cases h45 : sg = 45
      · subst h45
        have hT : turnMark ⟨45, tx⟩ = ⟨43, tx⟩ := rfl
        have HT := Lib.hid hT
        clear hT
        have hA : Chg Never wr (wr.alloc (.cells #[.int .u8 43, .string tx] 126)) := ((Chg.refl Never wr).alloc _)
        have hown0 := hown.never hA
        have hP0 := hP.keep hA (fun h => h)
        have hR0 := hR.keep hA (fun h => h)
        have hO0 : ∀ j, Old (w.heap.size + 3) j → j < ((wr.alloc (.cells #[.int .u8 43, .string tx] 126))).heap.size := fun j hj => Nat.lt_of_lt_of_le (hO j hj) hA.size
        have hc0 := hc.trans hA
        clear hA hO
        obtain ⟨_, _, q2⟩ := hP0.cell
        go_wp2_with (at_builtin; refine wpList_push (by rfl) _ _ 127 (by rfl) elemOk_mark (O := Old (w.heap.size + 3)) (l := (l.take k).map turnMark) (y := ⟨43, tx⟩) (by rfl) (by rfl) (by simp) hown0 (rd_mark _ _ 43 tx (by first | assumption | decide) (by first | assumption | decide) hxs) hO0 hlen ?_; intro v' w5 hown2 hc2 hk2; obtain ⟨ad, nn, cc, rfl⟩ := own_slice hk2; have hP5 := hP0.keep hc2 (own_not hown0 (by omega)); have hR5 := hR0.keep hc2 (own_not hown0 (by omega)); obtain ⟨q3, q4, q5⟩ := hP5.cell; have q6 := hP5.free 2)
        have hc5 := own_step' hc0 (by omega) hown0 hc2
        have hS : Chg (fun j => j = w.heap.size + 1 + 1) w5 (w5.setCell ⟨w.heap.size + 1 + 1, 2, none⟩ (.slice (some ad) nn cc)) := (Chg.refl (fun j => j = w.heap.size + 1 + 1) w5).setCell (p := ⟨w.heap.size + 1 + 1, 2, none⟩) (.inr rfl) _
        have hown3 := hown2.keep hS (fun j _ h => by unfold Old; omega) (fun _ _ h => h)
        clear hown hown0 hc2 hown2
        go_roundw
        case rel => exact ⟨k + 1, .slice (some ad) nn cc, by omega, by go_num, hc5.setCell (.inl (by show w.heap.size ≤ w.heap.size + 1 + 1; omega)) _, hR5.keep hS (by omega), hP5.set2 _, by rw [HM.out, HT.out]; exact hown3⟩
        case measure => simp [intOf] <;> omega
      · by_cases h43 : sg = 43
        · subst h43
          have hT : turnMark ⟨43, tx⟩ = ⟨45, tx⟩ := rfl
          have HT := Lib.hid hT
          clear hT
          have hA : Chg Never wr (wr.alloc (.cells #[.int .u8 45, .string tx] 126)) := ((Chg.refl Never wr).alloc _)
          have hown0 := hown.never hA
          have hP0 := hP.keep hA (fun h => h)
          have hR0 := hR.keep hA (fun h => h)
          have hO0 : ∀ j, Old (w.heap.size + 3) j → j < ((wr.alloc (.cells #[.int .u8 45, .string tx] 126))).heap.size := fun j hj => Nat.lt_of_lt_of_le (hO j hj) hA.size
          have hc0 := hc.trans hA
          clear hA hO
          obtain ⟨_, _, q2⟩ := hP0.cell
          go_wp2_with (at_builtin; refine wpList_push (by rfl) _ _ 127 (by rfl) elemOk_mark (O := Old (w.heap.size + 3)) (l := (l.take k).map turnMark) (y := ⟨45, tx⟩) (by rfl) (by rfl) (by simp) hown0 (rd_mark _ _ 45 tx (by first | assumption | decide) (by first | assumption | decide) hxs) hO0 hlen ?_; intro v' w5 hown2 hc2 hk2; obtain ⟨ad, nn, cc, rfl⟩ := own_slice hk2; have hP5 := hP0.keep hc2 (own_not hown0 (by omega)); have hR5 := hR0.keep hc2 (own_not hown0 (by omega)); obtain ⟨q3, q4, q5⟩ := hP5.cell; have q6 := hP5.free 2)
          have hc5 := own_step' hc0 (by omega) hown0 hc2
          have hS : Chg (fun j => j = w.heap.size + 1 + 1) w5 (w5.setCell ⟨w.heap.size + 1 + 1, 2, none⟩ (.slice (some ad) nn cc)) := (Chg.refl (fun j => j = w.heap.size + 1 + 1) w5).setCell (p := ⟨w.heap.size + 1 + 1, 2, none⟩) (.inr rfl) _
          have hown3 := hown2.keep hS (fun j _ h => by unfold Old; omega) (fun _ _ h => h)
          clear hown hown0 hc2 hown2
          go_roundw
          case rel => exact ⟨k + 1, .slice (some ad) nn cc, by omega, by go_num, hc5.setCell (.inl (by show w.heap.size ≤ w.heap.size + 1 + 1; omega)) _, hR5.keep hS (by omega), hP5.set2 _, by rw [HM.out, HT.out]; exact hown3⟩
          case measure => simp [intOf] <;> omega
        · have hT : turnMark ⟨sg, tx⟩ = ⟨sg, tx⟩ := by simp [turnMark, h43, h45]
          have t1 : (sg == 45) = false := by simp [h45]
          have t2 : (sg == 43) = false := by simp [h43]
          clear h43 h45
          have HT := Lib.hid hT
          clear hT
          have hA : Chg Never wr (wr.alloc (.cells #[.int .u8 sg, .string tx] 126)) := ((Chg.refl Never wr).alloc _)
          have hown0 := hown.never hA
          have hP0 := hP.keep hA (fun h => h)
          have hR0 := hR.keep hA (fun h => h)
          have hO0 : ∀ j, Old (w.heap.size + 3) j → j < ((wr.alloc (.cells #[.int .u8 sg, .string tx] 126))).heap.size := fun j hj => Nat.lt_of_lt_of_le (hO j hj) hA.size
          have hc0 := hc.trans hA
          clear hA hO
          obtain ⟨_, _, q2⟩ := hP0.cell
          go_wp2_with (at_builtin; refine wpList_push (by rfl) _ _ 127 (by rfl) elemOk_mark (O := Old (w.heap.size + 3)) (l := (l.take k).map turnMark) (y := ⟨sg, tx⟩) (by rfl) (by rfl) (by simp) hown0 (rd_mark _ _ sg tx (by first | assumption | decide) (by first | assumption | decide) hxs) hO0 hlen ?_; intro v' w5 hown2 hc2 hk2; obtain ⟨ad, nn, cc, rfl⟩ := own_slice hk2; have hP5 := hP0.keep hc2 (own_not hown0 (by omega)); have hR5 := hR0.keep hc2 (own_not hown0 (by omega)); obtain ⟨q3, q4, q5⟩ := hP5.cell; have q6 := hP5.free 2)
          have hc5 := own_step' hc0 (by omega) hown0 hc2
          have hS : Chg (fun j => j = w.heap.size + 1 + 1) w5 (w5.setCell ⟨w.heap.size + 1 + 1, 2, none⟩ (.slice (some ad) nn cc)) := (Chg.refl (fun j => j = w.heap.size + 1 + 1) w5).setCell (p := ⟨w.heap.size + 1 + 1, 2, none⟩) (.inr rfl) _
          have hown3 := hown2.keep hS (fun j _ h => by unfold Old; omega) (fun _ _ h => h)
          clear hown hown0 hc2 hown2
          go_roundw
          case rel => exact ⟨k + 1, .slice (some ad) nn cc, by omega, by go_num, hc5.setCell (.inl (by show w.heap.size ≤ w.heap.size + 1 + 1; omega)) _, hR5.keep hS (by omega), hP5.set2 _, by rw [HM.out, HT.out]; exact hown3⟩
          case measure => simp [intOf] <;> omega
    · obtain rfl : k = l.length := by omega
      rw [List.take_length] at hown
      obtain ⟨p0, p1, p2⟩ := hP.cell
      obtain ⟨r0, r1, r2⟩ := hR.cell
      have rf := hR.free
      have pl := hR.lt
      obtain ⟨ra, rn, rc, rfl⟩ := own_isSlice hown
      obtain ⟨f0, f1, f2⟩ := (((hR.set0 (.int .i64 n)).set1 (.int .i64 o)).set2 (.slice ra rn rc)).cell
      have hS : Chg (fun j => j = w.heap.size + 1) wr (((wr.setCell ⟨w.heap.size + 1, 0, none⟩ (.int .i64 n)).setCell ⟨w.heap.size + 1, 1, none⟩ (.int .i64 o)).setCell ⟨w.heap.size + 1, 2, none⟩ (.slice ra rn rc)) :=
        (((Chg.refl (fun j => j = w.heap.size + 1) wr).setCell (p := ⟨w.heap.size + 1, 0, none⟩) (.inr rfl) _).setCell (p := ⟨w.heap.size + 1, 1, none⟩) (.inr rfl) _).setCell (p := ⟨w.heap.size + 1, 2, none⟩) (.inr rfl) _
      have hr := (hown.keep (O'' := Old w.heap.size) hS (fun j _ h => by unfold Old; omega) (fun j _ h => by unfold Old at *; omega)).rdv
      have hcF := (((hc.setCell (p := ⟨w.heap.size + 1, 0, none⟩) (.inl (by show w.heap.size ≤ w.heap.size + 1; omega)) (.int .i64 n)).setCell (p := ⟨w.heap.size + 1, 1, none⟩) (.inl (by show w.heap.size ≤ w.heap.size + 1; omega)) (.int .i64 o)).setCell (p := ⟨w.heap.size + 1, 2, none⟩) (.inl (by show w.heap.size ≤ w.heap.size + 1; omega)) (.slice ra rn rc))
      clear hS hown
      go_wp2_with fail
      exact bodyPost_ret (v := .agg #[.int .i64 n, .int .i64 o, .slice ra rn rc]) (by simp [results, Tryz.results131, go_sem, f0, f1, f2]) rfl ⟨_, rfl, hcF, hr⟩

def turnR (l : List Hunk) : List Hunk := if (hunksFault l).2 = 0 then turnHunks l else []
theorem turnHunks_take {l : List Hunk} {k : Nat} {x : Hunk} (hx : l[k]? = some x) : turnHunks (l.take (k + 1)) = turnHunks (l.take k) ++ [turnHunk x] := by
  rw [List.take_add_one, hx]; simp [turnHunks]
set_option maxHeartbeats 800000 in
theorem turn_any (l : List Hunk) (v : Value) (w : World) (h : Rdv w Never v l) :
    Calls Tryz.prog 82 #[v] w fun e w' => ∃ r, e = .returned (.tuple #[r, errV (hunksFault l).2]) ∧ Chg Never w w' ∧ Rdv w' (Old w.heap.size) r (turnR l) := by
  by_cases hz : (hunksFault l).2 = 0
  · have hlen := (hunksFault_zero hz).1
    have hok := hOk_mem _ _ _ (hunksFault_zero hz).2
    have HE : Hid (turnR l = turnHunks l) := if_pos hz
    obtain ⟨a, cap, rfl, h1, h2, h3⟩ := rdv_slice h
    unfold maxLen at h2
    go_enter Tryz.func82, Tryz.ntmps82
    go_wp2_with fail
    refine (hunk_check_any l _ _ h).mono ?_
    rintro e w1 ⟨rfl, hc1⟩
    rw [hz, errV_zero]
    have HZ := Lib.hid hz
    clear hz
    go_wp2_with fail
    go_loopw [6, 19] (fun o i wr => ∃ (k : Nat), k ≤ l.length ∧ i = .int .i64 k ∧ Chg Never w wr ∧ Own 129 wr (Old w.heap.size) o (turnHunks (l.take k))) (fun _ i _ => l.length - (intOf i).toNat)
    case atStart => exact ⟨0, Nat.zero_le _, rfl, hc1, own_nil _ _ _⟩
    case round =>
      clear hc1
      obtain ⟨k, hk, rfl, hc, hown⟩ := hrel
      by_cases hlt : k < l.length
      · obtain ⟨x, hx⟩ : ∃ x, l[k]? = some x := ⟨l[k], by simp [hlt]⟩
        obtain ⟨b, off, mv, rfl, _, _, c0, c1, c2, hmv⟩ := elems_hunk h3 hx
        have c0 := hc.cellNever c0
        have c1 := hc.cellNever c1
        have c2 := hc.cellNever c2
        have hmv := hmv.never hc
        obtain ⟨ma, mcap, rfl, _, _, _⟩ := rdv_slice hmv
        have HT := Lib.hid (turnHunks_take hx)
        have hml : x.marks.length ≤ 120 := scriptFault_len (hok x (List.mem_of_getElem? hx))
        have hle : (turnHunks (l.take k)).length ≤ 1000000000 := by unfold turnHunks; rw [List.length_map, List.length_take]; omega
        clear hx h3 h hok
        go_wp2_with fail
        refine (turned_any x _ _ (hmv.never ((Chg.refl _ _).alloc _)) hml).mono ?_
        rintro e w2 ⟨r, rfl, hc2, hr2⟩
        have hA := ((Chg.refl Never wr).alloc (.cells #[.int .i64 x.old, .int .i64 x.new, .slice ma x.marks.length mcap] 129)).trans hc2
        have hown2 := hown.never hA
        have hb := own_block_lt hown
        have hcw := hc.trans hA
        have hy : Dat.rd w2 (fun j => Old w.heap.size j ∨ _ = some j) [.int .i64 x.new, .int .i64 x.old, r] (turnHunk x) := ⟨r, rfl, hr2.sub (O' := fun j => Old w.heap.size j ∨ _ = some j) (fun j _ hj => by
          show j < (wr.alloc _).heap.size
          rw [World.size_alloc]
          rcases hj with hj | hj
          · have := hc.size; unfold Old at hj; omega
          · exact Nat.lt_succ_of_lt (hb j hj))⟩
        go_wp2_with (at_builtin; refine wpList_push (by rfl) _ _ 83 (by rfl) elemOk_hunk (O := Old w.heap.size) (l := turnHunks (l.take k)) (y := turnHunk x) (by rfl) (by rfl) (by simp) hown2 hy (old_lt hcw) hle ?_; intro v' w5 hown5 hc5 hk5)
        have hc6 := own_step hcw hown2 hc5
        clear hown2 hc5 hown hy
        go_roundw
        case rel => exact ⟨k + 1, by omega, by go_num, hc6, by rw [HT.out]; exact hown5⟩
        case measure => simp [intOf] <;> omega
      · go_wp2_with fail
        go_ret2
        obtain rfl : k = l.length := by omega
        rw [List.take_length] at hown
        exact ⟨_, by rw [HZ.out]; rfl, hc, by rw [HE.out]; exact hown.rdv⟩
  · have HE : Hid (turnR l = []) := if_neg hz
    go_enter Tryz.func82, Tryz.ntmps82
    go_wp2_with fail
    refine (hunk_check_any l _ _ h).mono ?_
    rintro e w1 ⟨rfl, hc1⟩
    rw [errV_pos hz]
    go_wp2_with fail
    go_ret2
    exact ⟨.slice none 0 0, by rw [errV_pos hz]; rfl, hc1, by rw [HE.out]; exact rdv_nil _ _⟩
end Go.Proofs.YtjiaidchcldocaaGreatDoor
namespace Go.Proofs.YtjiaidchcldocaaGreatDoor
open Go.RowKit

theorem elems_cells {α : Type} [Dat α] {w : World} {O : Nat → Prop} {b off : Nat} {m : List α} (h : Elems w O (some ⟨b, off, none⟩) m) : ∀ k, k ≤ m.length →
    ∃ news : List Value, news.length = k * Dat.n α ∧ (∀ (j : Nat) (u : Value), news[j]? = some u → w.cell? ⟨b, off + j, none⟩ = some u) ∧ (∀ u ∈ news, u.oneCell' = true) ∧
      (∀ (i : Nat) (x : α), i < k → m[i]? = some x → Dat.rd w O ((news.drop (i * Dat.n α)).take (Dat.n α)) x) := by
  intro k
  induction k with
  | zero => intro _; exact ⟨[], by simp, by simp, by simp, fun i x hi => by omega⟩
  | succ k ih =>
    intro hk
    obtain ⟨news, h1, h2, h3, h4⟩ := ih (by omega)
    have hx : m[k]? = some m[k] := by simp
    obtain ⟨b', off', es, he, hb, hcs, hr⟩ := h k m[k] hx
    simp only [Option.some.injEq, Addr.mk.injEq, and_true] at he
    obtain ⟨rfl, rfl⟩ := he
    have hes := Dat.len hr
    refine ⟨news ++ es, by rw [List.length_append, h1, hes, Nat.succ_mul], ?_, ?_, ?_⟩
    · intro j u hj
      rcases Nat.lt_or_ge j news.length with hl | hl
      · rw [List.getElem?_append_left hl] at hj
        exact h2 j u hj
      · rw [List.getElem?_append_right hl] at hj
        have := hcs _ u hj
        rw [show off + k * Dat.n α + (j - news.length) = off + j by omega] at this
        exact this
    · intro u hu
      rcases List.mem_append.1 hu with hu | hu
      · exact h3 u hu
      · exact Dat.one hr u hu
    · intro i x hi hxi
      rcases Nat.lt_or_ge i k with hl | hl
      · have hle : i * Dat.n α + Dat.n α ≤ news.length := by rw [h1, ← Nat.succ_mul]; exact Nat.mul_le_mul_right _ hl
        rw [List.drop_append_of_le_length (by omega), List.take_append_of_le_length (by rw [List.length_drop]; omega)]
        exact h4 i x hl hxi
      · obtain rfl : i = k := by omega
        rw [hx] at hxi
        injection hxi with hxi
        subst hxi
        rw [← h1, List.drop_left, List.take_of_length_le (by omega)]
        exact hr

theorem run_append_empty {P : Program} {t ty e : TypeId} {n : Nat} (hP : ElemOk P t e n) {w : World} {v : Value} {m : Nat} {xs : List Value} (hown : w.ownsRow 0 e n v m xs) (a : Option Addr) (c : Nat) :
    (Builtin.append_ #[t, t] ty #[v, .slice a 0 c]).run P w = .ok v w := by
  obtain ⟨i, z, hi, _⟩ := hP.info
  have ht := hP.ht
  cases a with
  | none =>
    rcases hown.2 with ⟨rfl, rfl⟩ | ⟨g, cap, cur, rfl, _, _, hnc, _⟩
    · simp [Builtin.append_, run_underlying ht, sizeOf, typeInfo, hi, Builtin.lenOf, Builtin.firstCells]
    · simp [Builtin.append_, run_underlying ht, sizeOf, typeInfo, hi, Builtin.lenOf, Builtin.firstCells, hnc, storeCells]
  | some a =>
    rcases hown.2 with ⟨rfl, rfl⟩ | ⟨g, cap, cur, rfl, _, _, hnc, _⟩
    · simp [Builtin.append_, run_underlying ht, sizeOf, typeInfo, hi, Builtin.lenOf, Builtin.firstCells, loadCells, loadCellsFrom]
    · simp [Builtin.append_, run_underlying ht, sizeOf, typeInfo, hi, Builtin.lenOf, Builtin.firstCells, loadCells, loadCellsFrom, hnc, storeCells]

theorem run_many {P : Program} {α : Type} [Dat α] {t ty e : TypeId} (hP : ElemOk P t e (Dat.n α)) {w0 : World} {O : Nat → Prop} {v x : Value} {l m : List α}
    (hown : Own e w0 O v l) (hx : Rdv w0 Never x m) (hd : ∀ cs y, Dat.rd w0 Never cs (y : α) → Dat.rd w0 (fun k => O k ∨ v.ownBlock = some k) cs y) (hO : ∀ k, O k → k < w0.heap.size) (hlen : l.length + m.length ≤ 1000000000) :
    ∃ v' w', (Builtin.append_ #[t, t] ty #[v, x]).run P w0 = .ok v' w' ∧ Own e w' O v' (l ++ m) ∧ Chg (OwnB v) w0 w' := by
  obtain ⟨a, cap, rfl, c1, c2, hel⟩ := rdv_slice hx
  rcases Nat.eq_zero_or_pos m.length with h0 | hpos
  · have : m = [] := List.eq_nil_of_length_eq_zero h0
    subst this
    refine ⟨v, w0, ?_, by rw [List.append_nil]; exact hown, Chg.refl _ _⟩
    obtain ⟨xs, hrow, _⟩ := hown
    exact run_append_empty hP hrow a cap
  · obtain ⟨b, off, rfl⟩ : ∃ b off, a = some ⟨b, off, none⟩ := by
      obtain ⟨b, off, es, ha, _⟩ := hel 0 m[0] (by simp [hpos])
      exact ⟨b, off, ha⟩
    obtain ⟨i, z, hi, hz, hsz, hzs, hby⟩ := hP.info
    obtain ⟨xs, hrow, hb, hels⟩ := id hown
    obtain ⟨news, n1, n2, n3, n4⟩ := elems_cells hel m.length (Nat.le_refl _)
    have hpos' := Dat.pos (α := α)
    have hcells : ∀ j u, news[j]? = some u → w0.cell? ((⟨b, off, none⟩ : Addr).add j) = some u := by
      intro j u hj
      have e1 : (⟨b, off, none⟩ : Addr).add j = ⟨b, off + j, none⟩ := by unfold Addr.add; split <;> simp_all
      rw [e1]
      exact n2 j u hj
    have hbound : (l.length + m.length) * i.bytes ≤ 140737488355328 := by
      have := Nat.mul_le_mul hlen hby
      omega
    obtain ⟨v', w', hrun, hown', hgrow, hnil⟩ := run_append_own (P := P) w0 0 t ty e i z (Dat.n α) i.bytes hP.ht hi hz hsz rfl hzs hpos' v l.length xs hrow
      ⟨b, off, none⟩ m.length cap news n1 hcells n3 (by unfold maxLen; omega) hbound (Nat.zero_le _)
    obtain ⟨kb, hkb, hkb'⟩ := append_block (P := P) w0 0 t ty e i z (Dat.n α) i.bytes hP.ht hi hz hsz rfl v l.length xs hrow
      ⟨b, off, none⟩ m.length cap news n1 hcells n3 (by unfold maxLen; omega) hbound (by omega) hrun
    have hc : Chg (OwnB v) w0 w' := Chg.of_grown hgrow
    have hsub : ∀ k, k < w0.heap.size → (O k ∨ v'.ownBlock = some k) → (O k ∨ v.ownBlock = some k) := by
      rintro k hk (h | h)
      · exact .inl h
      · rw [hkb] at h
        injection h with h
        subst h
        rcases hkb' with h | h
        · exact .inr h
        · omega
    refine ⟨v', w', hrun, ⟨xs ++ news, ?_, ?_, ?_⟩, hc⟩
    · rw [List.length_append]; exact hown'
    · intro k hk ho
      rw [hkb] at hk
      injection hk with hk
      subst hk
      rcases hkb' with h | h
      · exact hb _ h ho
      · exact absurd (hO _ ho) (by omega)
    · intro j y hj
      have hxl : xs.length = l.length * Dat.n α := hrow.1
      rcases Nat.lt_or_ge j l.length with hjl | hjl
      · rw [List.getElem?_append_left hjl] at hj
        have hle : j * Dat.n α + Dat.n α ≤ xs.length := by rw [hxl, ← Nat.succ_mul]; exact Nat.mul_le_mul_right _ hjl
        rw [List.drop_append_of_le_length (by omega), List.take_append_of_le_length (by rw [List.length_drop]; omega)]
        exact Dat.keep (hels j y hj) hc (fun k _ hk => .inr hk) hsub
      · rw [List.getElem?_append_right hjl] at hj
        have hjm := (List.getElem?_eq_some_iff.1 hj).1
        have e1 : (xs ++ news).drop (j * Dat.n α) = news.drop ((j - l.length) * Dat.n α) := by
          have e2 : j * Dat.n α = xs.length + (j - l.length) * Dat.n α := by rw [hxl, ← Nat.add_mul]; congr 1; omega
          rw [e2, List.drop_append]
          simp
        rw [e1]
        exact Dat.keep (hd _ _ (n4 _ y hjm hj)) hc (fun k _ hk => .inr hk) hsub

theorem wpList_many {P : Program} {ops : Array Oper} {rest : List Oper} {o : Oper} {a : Act} {Q : Exit → Act → World → Prop} (hgd : o.guard = none) (s x : Operand) (t : TypeId)
    (ho : o.op = .call { callee := .builtin .append, args := #[s, x], argTypes := #[t, t] }) {α : Type} [Dat α] {e : TypeId} (hP : ElemOk P t e (Dat.n α)) {w0 : World} {O : Nat → Prop} {v u : Value} {l m : List α}
    (hs : a.eval s = v) (hx : a.eval x = u) (hown : Own e w0 O v l) (hu : Rdv w0 Never u m) (hd : ∀ cs y, Dat.rd w0 Never cs (y : α) → Dat.rd w0 (fun k => O k ∨ v.ownBlock = some k) cs y) (hO : ∀ k, O k → k < w0.heap.size) (hlen : l.length + m.length ≤ 1000000000)
    (h : ∀ v' w', Own e w' O v' (l ++ m) → Chg (OwnB v) w0 w' → wpList P ops Q rest (a.put o.dst v') w') :
    wpList P ops Q (o :: rest) a w0 := by
  refine wpList_plain hgd fun K hK => ?_
  obtain ⟨v', w', hrun, h1, h2⟩ := run_many (ty := o.type) hP hown hu hd hO hlen
  unfold Oper.wp execOp
  simp only [ho, resolve, invoke, builtin, Sem.run_bind, Sem.run_pure, Result.andThen_ok, List.map_toArray, List.map_cons, List.map_nil, hs, hx, hrun]
  exact hK _ _ (h v' w' h1 h2)

/-! ### a slice's slice -/
theorem elems_sub {α : Type} [Dat α] {w : World} {O : Nat → Prop} {b off : Nat} {l : List α} (h : Elems w O (some ⟨b, off, none⟩) l) (i k : Nat) : Elems w O (some ⟨b, off + i * Dat.n α, none⟩) ((l.drop i).take k) := by
  intro q x hx
  rw [List.getElem?_take] at hx
  split at hx
  · rw [List.getElem?_drop] at hx
    obtain ⟨b', off', es, he, hb, hcs, hr⟩ := h (i + q) x hx
    simp only [Option.some.injEq, Addr.mk.injEq, and_true] at he
    obtain ⟨rfl, rfl⟩ := he
    refine ⟨b, _, es, rfl, hb, ?_, hr⟩
    rw [Nat.add_assoc, ← Nat.add_mul]
    exact hcs
  · cases hx
/-- 's[i:j]' as a value -/
theorem rdv_sliced {α : Type} [Dat α] {w : World} {O : Nat → Prop} {a : Option Addr} {cap : Nat} {l : List α} (h : Rdv w O (.slice a l.length cap) l) (i j : Nat) (hij : i ≤ j) (hj : j ≤ l.length) :
    Rdv w O (sliced a i j cap (Dat.n α)) ((l.drop i).take (j - i)) := by
  obtain ⟨a', cap', e, h1, h2, h3⟩ := rdv_slice h
  simp only [Value.slice.injEq, true_and] at e
  obtain ⟨rfl, rfl⟩ := e
  have hl : ((l.drop i).take (j - i)).length = j - i := by rw [List.length_take, List.length_drop]; omega
  refine ⟨if cap = i then a else a.map (·.add (i * Dat.n α)), cap - i, by rw [hl]; rfl, by rw [hl]; omega, by omega, ?_⟩
  by_cases hc : cap = i
  · have : (l.drop i).take (j - i) = [] := List.eq_nil_of_length_eq_zero (by rw [hl]; omega)
    rw [this]
    intro q x hx
    simp at hx
  · rw [if_neg hc]
    intro q x hx
    have hq := (List.getElem?_eq_some_iff.1 hx).1
    have hpos : 0 < l.length := by rw [hl] at hq; omega
    obtain ⟨b, off, es, ha, _⟩ := h3 0 l[0] (by simp [hpos])
    subst ha
    have e1 : (some (⟨b, off, none⟩ : Addr)).map (·.add (i * Dat.n α)) = some ⟨b, off + i * Dat.n α, none⟩ := by
      simp only [Option.map_some]
      unfold Addr.add
      split <;> simp_all
    rw [e1]
    exact elems_sub h3 i (j - i) q x hx
theorem sliced_isSlice (a : Option Addr) (i j cap s : Nat) : ∃ b, sliced a i j cap s = .slice b (j - i) (cap - i) := ⟨_, rfl⟩
end Go.Proofs.YtjiaidchcldocaaGreatDoor
namespace Go.Proofs.YtjiaidchcldocaaGreatDoor
open Go.RowKit

def makeFault (a b : List ByteArray) (n : Int) : Int := if checkedFault a b ≠ 0 then checkedFault a b else cutFault (script a b) n
def makeR (a b : List ByteArray) (n : Int) : List Hunk := if checkedFault a b = 0 then cutR (script a b) n else []
theorem make_any (a b : List ByteArray) (n : Int) (v u : Value) (w : World) (ha : Rdv w Never v a) (hb : Rdv w Never u b) (hn : I64 n) :
    Calls Tryz.prog 65 #[v, u, .int .i64 n] w fun e w' => ∃ r, e = .returned (.tuple #[r, errV (makeFault a b n)]) ∧ Chg Never w w' ∧ Rdv w' (Old w.heap.size) r (makeR a b n) := by
  by_cases hz : checkedFault a b = 0
  · have HZ := Lib.hid hz
    have E1 : Hid (makeFault a b n = cutFault (script a b) n) := by unfold Hid makeFault; rw [if_neg (by simp [hz])]
    have E2 : Hid (makeR a b n = cutR (script a b) n) := if_pos hz
    have E3 : Hid (scriptR a b = script a b) := if_pos hz
    clear hz
    go_enter Tryz.func65, Tryz.ntmps65
    go_wp2_with fail
    refine (script_any a b _ _ _ ha hb).mono ?_
    rintro e w1 ⟨r1, rfl, hc1, hr1⟩
    rw [HZ.out, errV_zero]
    rw [E3.out] at hr1
    go_wp2_with fail
    refine (Cut_any (script a b) n _ _ (hr1.sub (fun _ _ h => h.elim)) hn).mono ?_
    rintro e w2 ⟨r2, rfl, hc2, hr2⟩
    go_wp2_with fail
    go_ret2
    exact ⟨r2, by rw [E1.out]; rfl, hc1.trans hc2, by rw [E2.out]; exact hr2.sub (fun k hk h => Nat.lt_of_lt_of_le h hc1.size)⟩
  · have HZ := Lib.hid hz
    have E1 : Hid (makeFault a b n = checkedFault a b) := if_pos hz
    have E2 : Hid (makeR a b n = []) := if_neg hz
    clear hz
    go_enter Tryz.func65, Tryz.ntmps65
    go_wp2_with fail
    refine (script_any a b _ _ _ ha hb).mono ?_
    rintro e w1 ⟨r1, rfl, hc1, hr1⟩
    rw [errV_pos HZ.out]
    go_wp2_with fail
    go_ret2
    exact ⟨.slice none 0 0, by rw [E1.out, errV_pos HZ.out]; rfl, hc1, by rw [E2.out]; exact rdv_nil _ _⟩

theorem sides_any (l : List Mark) (v : Value) (w : World) (h : Rdv w Never v l) (hz : scriptFault l = 0) :
    Calls Tryz.prog 143 #[v] w fun e w' => ∃ r s, e = .returned (.tuple #[r, s, .nilIface]) ∧ Chg Never w w' ∧ Rdv w' (Old w.heap.size) r (oldOf l) ∧ Rdv w' (Old w.heap.size) s (newOf l) := by
  have HZ := Lib.hid hz
  have H1 : Hid (thoseR l 43 = oldOf l) := if_pos hz
  have H2 : Hid (thoseR l 45 = newOf l) := if_pos hz
  clear hz
  go_enter Tryz.func143, Tryz.ntmps143
  go_wp2_with fail
  refine (old_any l _ _ h).mono ?_
  rintro e w1 ⟨r1, rfl, hc1, hr1⟩
  rw [HZ.out, errV_zero]
  rw [H1.out] at hr1
  go_wp2_with fail
  refine (new_any l _ _ (h.never hc1)).mono ?_
  rintro e w2 ⟨r2, rfl, hc2, hr2⟩
  rw [HZ.out, errV_zero]
  rw [H2.out] at hr2
  go_wp2_with fail
  go_ret3
  exact ⟨r1, r2, rfl, hc1.trans hc2, hr1.never hc2, hr2.sub (fun k hk h => Nat.lt_of_lt_of_le h hc1.size)⟩

theorem str_bne_true {x y : ByteArray} (h : x ≠ y) : (x.toList != y.toList) = true := by
  have := str_beq_false h
  simp only [bne, this, Bool.not_false]
theorem equal_any (l m : List ByteArray) (v u : Value) (w : World) (h : Rdv w Never v l) (g : Rdv w Never u m) :
    Calls Tryz.prog 186 #[v, u] w fun e w' => e = .returned (.bool (decide (l = m))) ∧ Chg Never w w' := by
  obtain ⟨a, cap, rfl, h1, h2, h3⟩ := rdv_slice h
  obtain ⟨c, cap', rfl, g1, g2, g3⟩ := rdv_slice g
  unfold maxLen at h2 g2
  by_cases h4 : l.length = m.length
  · have h4' : ((l.length : Int) != m.length) = false := by simp [h4]
    have H4 := Lib.hid h4
    clear h4
    go_enter Tryz.func186, Tryz.ntmps186
    go_wp2
    go_loopw [13] (fun i wr => ∃ k : Nat, k ≤ l.length ∧ i = .int .i64 k ∧ Hid (l.take k = m.take k) ∧ Chg Never w wr) (fun i _ => l.length - (intOf i).toNat)
    case atStart => exact ⟨0, Nat.zero_le _, rfl, by simp [Hid], Chg.refl _ _⟩
    case round =>
      obtain ⟨k, hk, rfl, hf, hc⟩ := hrel
      by_cases hlt : k < l.length
      · obtain ⟨x, hx⟩ : ∃ x, l[k]? = some x := ⟨l[k], by simp [hlt]⟩
        obtain ⟨y, hy⟩ : ∃ y, m[k]? = some y := ⟨m[k]'(by rw [← H4.out]; exact hlt), by simp [H4.out ▸ hlt]⟩
        obtain ⟨b, off, rfl, _, _, hcx, hxs⟩ := elems_str h3 hx
        obtain ⟨b', off', rfl, _, _, hcy, hys⟩ := elems_str g3 hy
        have hcx := hc.cellNever hcx
        have hcy := hc.cellNever hcy
        clear h3 g3 h g
        have hlm : k < m.length := by rw [← H4.out]; exact hlt
        have HX := Lib.hid hx
        have HY := Lib.hid hy
        clear hx hy
        have b1 : (k : Int) < l.length := by omega
        have b2 : (k : Int) < m.length := by omega
        by_cases hxy : x = y
        · subst hxy
          go_wp2
          go_quiet (fail)
          go_wp2
          go_roundw
          case rel => exact ⟨k + 1, by omega, by go_num, take_same hf HX.out HY.out, hc.drewN _⟩
          case measure => simp [intOf]; omega
        · have hne := str_beq_false hxy
          have hne' := str_bne_true hxy
          go_wp2
          go_quiet (fail)
          go_wp2
          go_ret
          exact ⟨by rw [decide_eq_false (ne_of_get HX.out HY.out hxy)]; rfl, hc.drewN _⟩
      · go_wp2
        go_ret
        have E : l = m := by
          have := hf.out
          rwa [List.take_of_length_le (by omega), List.take_of_length_le (by rw [← H4.out]; omega)] at this
        exact ⟨by rw [decide_eq_true E]; rfl, hc⟩
  · have h4' : ((l.length : Int) != m.length) = true := by simp; omega
    go_enter Tryz.func186, Tryz.ntmps186
    go_wp2
    go_ret
    exact ⟨by rw [decide_eq_false (fun e => h4 (by rw [e]))]; rfl, Chg.refl _ _⟩

theorem size_str (w : World) : (sizeOf (Tryz.prog.elem 86)).run Tryz.prog w = .ok 1 w := by kernel_rfl
/-- 'a[i:j]' of texts, as a run -/
theorem slice_str {w0 : World} {O : Nat → Prop} {a : Option Addr} {cap : Nat} {l : List ByteArray} (h : Rdv w0 O (.slice a l.length cap) l) (i j : Nat) (hij : i ≤ j) (hj : j ≤ l.length) :
    ∃ b, (∀ (x y : Int) (w : World), x = i → y = j → (Instr.slice 86 (.slice a l.length cap) (some (.int .i64 x)) (some (.int .i64 y)) none).run Tryz.prog w = .ok (.slice b (j - i) (cap - i)) w) ∧
      (∀ (x : Int) (w : World), x = i → j = l.length → (Instr.slice 86 (.slice a l.length cap) (some (.int .i64 x)) none none).run Tryz.prog w = .ok (.slice b (j - i) (cap - i)) w) ∧
      Rdv w0 O (.slice b (j - i) (cap - i)) ((l.drop i).take (j - i)) := by
  have hr := rdv_sliced h i j hij hj
  obtain ⟨b, hb⟩ := sliced_isSlice a i j cap 1
  obtain ⟨a', cap', e, h1, h2, h3⟩ := rdv_slice h
  simp only [Value.slice.injEq, true_and] at e
  obtain ⟨rfl, rfl⟩ := e
  refine ⟨b, ?_, ?_, hb ▸ hr⟩
  · rintro x y w rfl rfl
    rw [run_slice_lh w 86 a l.length cap (by kernel_rfl) .i64 .i64 _ _ (by omega) (by omega) (by omega), size_str]
    simp only [Result.andThen_ok, Int.toNat_natCast]
    rw [hb]
  · rintro x w rfl rfl
    rw [run_slice_l w 86 a l.length cap (by kernel_rfl) .i64 _ (by omega) (by omega), size_str]
    simp only [Result.andThen_ok, Int.toNat_natCast]
    rw [hb]

theorem stands_any (a l : List ByteArray) (at_ : Int) (v u : Value) (w : World) (ha : Rdv w Never v a) (hl : Rdv w Never u l) (h0 : -1000000 ≤ at_) (h1 : at_ ≤ 1000000) (hla : a.length ≤ 1000000) (hll : l.length ≤ 1000000) :
    Calls Tryz.prog 144 #[v, .int .i64 at_, u] w fun e w' => e = .returned (.bool (standsB a at_ l)) ∧ Chg Never w w' := by
  obtain ⟨b, cap, rfl, _, hcap, _⟩ := rdv_slice ha
  obtain ⟨c, cap', rfl, _, _, _⟩ := rdv_slice hl
  unfold maxLen at hcap
  by_cases c1 : at_ < 0
  · have E : standsB a at_ l = false := by unfold standsB; simp; omega
    rw [E]
    go_enter Tryz.func144, Tryz.ntmps144
    go_wp2_with fail
    go_ret
    exact ⟨rfl, Chg.refl _ _⟩
  · obtain ⟨n, rfl⟩ := Int.eq_ofNat_of_zero_le (show 0 ≤ at_ by omega)
    by_cases c2 : a.length < n + l.length
    · have E : standsB a n l = false := by unfold standsB; simp; omega
      rw [E]
      have t1 : decide ((n : Int) + l.length ≤ a.length) = false := by simp; omega
      go_enter Tryz.func144, Tryz.ntmps144
      go_wp2_with fail
      go_ret
      exact ⟨rfl, Chg.refl _ _⟩
    · have E : Hid (standsB a n l = decide ((a.drop n).take l.length = l)) := by
        unfold Hid standsB
        have e1 : decide ((0 : Int) ≤ n) = true := by simp
        have e2 : decide ((n : Int) + l.length ≤ a.length) = true := by simp; omega
        rw [e1, e2]; simp
      obtain ⟨sb, hrun, _, hsub⟩ := slice_str ha n (n + l.length) (by omega) (by omega)
      have hrun := fun (wx : World) => hrun n ((n : Int) + l.length) wx rfl (by push_cast; rfl)
      rw [show n + l.length - n = l.length by omega] at hrun hsub
      have t1 : decide ((n : Int) + l.length ≤ a.length) = true := by simp; omega
      clear c2
      go_enter Tryz.func144, Tryz.ntmps144
      go_wp2_with fail
      refine (equal_any ((a.drop n).take l.length) l _ _ _ hsub hl).mono ?_
      rintro e w1 ⟨rfl, hc1⟩
      go_wp2_with fail
      go_ret
      exact ⟨by rw [E.out]; rfl, hc1⟩
end Go.Proofs.YtjiaidchcldocaaGreatDoor
namespace Go.Proofs.YtjiaidchcldocaaGreatDoor
open Go.RowKit

set_option maxRecDepth 100000 in
theorem grow_nil (n : Nat) (w : World) (hn : n ≤ 1000000) :
    Calls Tryz.prog 187 #[.slice none 0 0, .int .i64 n] w fun e w' => ∃ r, e = .returned r ∧ Chg Never w w' ∧ Own 9 w' (Old w.heap.size) r ([] : List ByteArray) := by
  rcases Nat.eq_zero_or_pos n with h0 | hpos
  · subst h0
    go_enter Tryz.func187, Tryz.ntmps187
    go_wp2_with fail
    go_ret
    exact ⟨_, rfl, Chg.refl _ _, own_nil _ _ _⟩
  · obtain ⟨i0, hi0, hz0, hs0, hb0⟩ := info_parts (show (Tryz.prog.info? 9).map (fun i => (i.zero, i.size, i.bytes)) = some (some (.string ⟨#[]⟩), 1, 16) by kernel_rfl)
    have hold : (Builtin.firstCells i0.size 0 (.slice none 0 0)).run Tryz.prog w.drew = .ok ([] : List Value).toArray w.drew := run_firstCells_none w.drew i0.size 0 0 0
    have hrz : ∀ ty, (Builtin.append_ #[86, 3] ty #[.slice none 0 0, .int .i64 (n : Int)]).run Tryz.prog w = .ok (.slice (some ⟨w.heap.size, 0, none⟩) n (grownCap w n 0 9))
        (w.drew.alloc (.cells (([] : List Value).toArray ++ Builtin.zeroCells (Value.string ⟨#[]⟩).cells n ++ Builtin.zeroCells (Value.string ⟨#[]⟩).cells (grownCap w n 0 9 - n)) 9)) := fun ty => by
      have h := Lib.run_append_grow_zeros w 86 3 ty 9 i0 (.string ⟨#[]⟩) .i64 .i64 Tryz.underlying86 Tryz.underlying3 hi0 hz0 none 0 0 [] hold n hpos (by omega) (by omega) (by omega) (by rw [hb0]; omega)
        (growslice_fits (by omega) (by rw [hb0]; omega))
      rw [Nat.zero_add] at h
      exact h
    have hGn : n ≤ grownCap w n 0 9 := grownCap_ge w _ _ _
    have hGm : grownCap w n 0 9 ≤ maxLen := grownCap_le_maxLen w n 0 9 (by unfold maxLen; omega)
    generalize grownCap w n 0 9 = G at hrz hGn hGm
    have hG63 : G ≤ 9223372036854775807 := by unfold maxLen at hGm; omega
    obtain ⟨cur, hcur⟩ : ∃ cur, cur = ([] : List Value).toArray ++ Builtin.zeroCells (Value.string ⟨#[]⟩).cells n ++ Builtin.zeroCells (Value.string ⟨#[]⟩).cells (G - n) := ⟨_, rfl⟩
    rw [← hcur] at hrz
    have hcs : cur.size = G * 1 := by rw [hcur]; simp [Builtin.zeroCells, Value.cells]; omega
    clear hcur
    have hmade : (w.drew.alloc (.cells cur 9)).ownsRow 0 9 1 (.slice (some ⟨w.heap.size, 0, none⟩) 0 G) 0 [] :=
      World.ownsRow_made w.drew _ G (Nat.zero_le _) hGm hcs
    have hcw : Chg Never w (w.drew.alloc (.cells cur 9)) := (Chg.refl Never w).drew.alloc _
    clear hcs
    have HM := Lib.hid hmade
    have HC := Lib.hid hcw
    clear hmade hcw hold hi0 hz0 hs0 hb0 hGm
    go_enter Tryz.func187, Tryz.ntmps187
    go_wp2_with (at_builtin; refine Lib.wpList_append_run _ rfl _ _ _ _ rfl _ _ rfl rfl _ _ (hrz _) ?_)
    all_goals
      go_ret
      have HO : ∀ k, (Value.slice (some ⟨w.heap.size, 0, none⟩) 0 G).ownBlock = some k → ¬ Old w.heap.size k := by
        intro k hk ho
        simp only [Value.ownBlock, Option.some.injEq] at hk
        subst hk
        unfold Old at ho
        omega
      exact ⟨.slice (some ⟨w.heap.size, 0, none⟩) 0 G, rfl, HC.out, [], HM.out, HO, fun i x hi => by simp at hi⟩

theorem elems_list {α : Type} [Dat α] {w : World} {O : Nat → Prop} {a : Option Addr} {l : List (List α)} (h : Elems w O a l) {i : Nat} {x : List α} (hx : l[i]? = some x) :
    ∃ b off v, a = some ⟨b, off, none⟩ ∧ ¬ O b ∧ b < w.heap.size ∧ w.cell? ⟨b, off + i, none⟩ = some v ∧ Rdv w O v x := by
  obtain ⟨b, off, es, ha, hb, hcs, hr⟩ := h i x hx
  obtain ⟨v, rfl⟩ : ∃ v, es = [v] := by
    have hl : es.length = 1 := Dat.len hr
    match es, hl with
    | [v], _ => exact ⟨v, rfl⟩
  refine ⟨b, off, v, ha, hb, hcs.lt (by simp), ?_, hr⟩
  have := hcs 0 v rfl
  simpa [Dat.n] using this
theorem flatten_take {l : List (List ByteArray)} {k : Nat} {x : List ByteArray} (hx : l[k]? = some x) : (l.take (k + 1)).flatten = (l.take k).flatten ++ x := by
  rw [List.take_add_one, hx]; simp
def totalOf (l : List (List ByteArray)) (k : Nat) : Nat := (l.take k).flatten.length
theorem flatten_take_le (l : List (List ByteArray)) (k : Nat) : (l.take k).flatten.length ≤ l.flatten.length := by
  have h : ((l.take k) ++ (l.drop k)).flatten.length = l.flatten.length := by rw [List.take_append_drop]
  rw [List.flatten_append, List.length_append] at h
  omega
theorem rd_str_any (w : World) (O O' : Nat → Prop) : ∀ cs (y : ByteArray), Dat.rd w O cs y → Dat.rd w O' cs y := fun _ _ h => h

set_option maxHeartbeats 800000 in
set_option maxRecDepth 100000 in
theorem concat_any (ls : List (List ByteArray)) (v : Value) (w : World) (h : Rdv w Never v ls) (hb : ls.flatten.length ≤ 1000000) :
    Calls Tryz.prog 145 #[v] w fun e w' => ∃ r, e = .returned r ∧ Chg Never w w' ∧ Own 9 w' (Old w.heap.size) r ls.flatten := by
  obtain ⟨a, cap, rfl, h1, h2, h3⟩ := rdv_slice h
  unfold maxLen at h2
  go_enter Tryz.func145, Tryz.ntmps145
  go_wp2_with fail
  go_loop [3, 5, 11] (fun sz _ i => ∃ k : Nat, k ≤ ls.length ∧ i = .int .i64 k ∧ sz = .int .i64 (totalOf ls k)) (fun _ _ i => ls.length - (intOf i).toNat)
  case atStart => exact ⟨0, Nat.zero_le _, rfl, rfl⟩
  case round =>
    obtain ⟨k, hk, rfl, rfl⟩ := hrel
    by_cases hlt : k < ls.length
    · obtain ⟨x, hx⟩ : ∃ x, ls[k]? = some x := ⟨ls[k], by simp [hlt]⟩
      obtain ⟨b, off, sv, rfl, _, _, c0, hsv⟩ := elems_list h3 hx
      obtain ⟨xa, xcap, rfl, _, _, _⟩ := rdv_slice hsv
      have HT : Hid (totalOf ls (k + 1) = totalOf ls k + x.length) := by rw [Hid, totalOf, flatten_take hx, List.length_append]; rfl
      have hle : totalOf ls k + x.length ≤ 1000000 := by
        have h1 : totalOf ls (k + 1) ≤ ls.flatten.length := flatten_take_le ls (k + 1)
        rw [HT.out] at h1
        omega
      clear hx h3 h hsv
      go_wp2_with fail
      go_round
      case rel => exact ⟨k + 1, by omega, by go_num, by rw [HT.out]; go_num⟩
      case measure => simp [intOf] <;> omega
    · obtain rfl : k = ls.length := by omega
      have hb' : totalOf ls ls.length ≤ 1000000 := Nat.le_trans (flatten_take_le ls _) hb
      go_wp2_with fail
      refine (grow_nil (totalOf ls ls.length) _ hb').mono ?_
      rintro e w1 ⟨r1, rfl, hc1, hown1⟩
      go_wp2_with fail
      go_loopw [6, 8, 27] (fun o _ i wr => ∃ k : Nat, k ≤ ls.length ∧ i = .int .i64 k ∧ Chg Never w wr ∧ Own 9 wr (Old w.heap.size) o (ls.take k).flatten) (fun _ _ i _ => ls.length - (intOf i).toNat)
      case atStart => exact ⟨0, Nat.zero_le _, rfl, hc1, hown1⟩
      case round =>
        clear hc1 hown1
        obtain ⟨k, hk, rfl, hc, hown⟩ := hrel
        by_cases hlt : k < ls.length
        · obtain ⟨x, hx⟩ : ∃ x, ls[k]? = some x := ⟨ls[k], by simp [hlt]⟩
          obtain ⟨b, off, sv, rfl, _, _, c0, hsv⟩ := elems_list h3 hx
          obtain ⟨xa, xcap, rfl, _, _, _⟩ := rdv_slice hsv
          have c0 := hc.cellNever c0
          have hsv := hsv.never hc
          have HF := Lib.hid (flatten_take hx)
          have hle : (ls.take k).flatten.length + x.length ≤ 1000000000 := by
            have := flatten_take_le ls (k + 1)
            rw [HF.out, List.length_append] at this
            omega
          clear hx h3 h
          go_wp2_with (at_builtin; refine wpList_many (by rfl) _ _ 86 (by rfl) elemOk_str (O := Old w.heap.size) (by rfl) (by rfl) hown hsv (rd_str_any _ _ _) (old_lt hc) hle ?_; intro v' w5 hown2 hc2)
          have hc3 := own_step hc hown hc2
          clear hc2 hown
          go_wp2_with fail
          go_roundw
          case rel => exact ⟨k + 1, by omega, by go_num, hc3, by rw [HF.out]; exact hown2⟩
          case measure => simp [intOf] <;> omega
        · obtain rfl : k = ls.length := by omega
          rw [List.take_length] at hown
          go_wp2_with fail
          go_ret
          exact ⟨_, rfl, hc, hown⟩
end Go.Proofs.YtjiaidchcldocaaGreatDoor
namespace Go.Proofs.YtjiaidchcldocaaGreatDoor
open Go.RowKit

theorem own_shape {α : Type} [Dat α] {e : TypeId} {w : World} {O : Nat → Prop} {v : Value} {l : List α} (h : Own e w O v l) : ∃ a c, v = .slice a l.length c ∧ c ≤ maxLen := by
  obtain ⟨xs, hx, _⟩ := h
  rcases hx.2 with ⟨h, h0⟩ | ⟨g, cap, cur, h, _, _, _, hm, _⟩
  · exact ⟨none, 0, by rw [h, h0], Nat.zero_le _⟩
  · exact ⟨_, _, h, hm⟩

set_option maxHeartbeats 1600000 in
set_option maxRecDepth 100000 in
theorem strict_ok (a : List ByteArray) (l : List Hunk) (va vl : Value) (w : World) (ha : Rdv w Never va a) (hl : Rdv w Never vl l) (h1 : linesFault a = 0) (h2 : hunksFault l = (0, 0)) :
    Calls Tryz.prog 126 #[va, vl] w fun e w' => ∃ r, e = .returned (.tuple #[r, .int .i64 (strict a l).2.1, errV (strict a l).2.2]) ∧ Chg Never w w' ∧ Rdv w' (Old w.heap.size) r (strict a l).1 := by
  have HS : Hid (strict a l = strictGo a 0 0 [] l) := by unfold Hid strict; rw [if_neg (by simp [h1]), if_neg (by simp [h2])]
  have hla := linesFault_len h1
  obtain ⟨hl60, hok⟩ := hunksFault_zero (l := l) (by rw [h2])
  have H1 := Lib.hid h1
  have H2 := Lib.hid h2
  have HK := Lib.hid hok
  obtain ⟨aa, acap, rfl, a1, a2, _⟩ := rdv_slice ha
  obtain ⟨ll, lcap, rfl, l1, l2, l3⟩ := rdv_slice hl
  unfold maxLen at a2 l2
  clear h1 h2 hok
  go_enter Tryz.func126, Tryz.ntmps126
  go_wp2_with fail
  refine (check_any a _ _ ha).mono ?_
  rintro e w1 ⟨rfl, rfl⟩
  rw [H1.out, errV_zero]
  go_wp2_with fail
  refine (hunk_check_any l _ _ hl).mono ?_
  rintro e w1 ⟨rfl, hc1⟩
  rw [H2.out, errV_zero]
  go_wp2_with fail
  go_loopw [10, 11, 33] (fun o fr i wr => ∃ (k frn : Nat) (outl : List ByteArray) (more : Int), k ≤ l.length ∧ i = .int .i64 k ∧ fr = .int .i64 frn ∧ Chg Never w wr ∧ Own 9 wr (Old w.heap.size) o outl ∧ frn ≤ a.length ∧ outl.length ≤ 200 * k ∧
      Hid (hOk frn more (l.drop k)) ∧ Hid (strictGo a k frn outl (l.drop k) = strict a l)) (fun _ _ i _ => l.length - (intOf i).toNat)
  case atStart => exact ⟨0, 0, [], 0, Nat.zero_le _, rfl, rfl, hc1, own_nil _ _ _, Nat.zero_le _, Nat.zero_le _, HK.out, HS.out.symm⟩
  case round =>
    clear hc1 HK HS
    obtain ⟨k, frn, outl, more, hk, rfl, rfl, hc, hown, hfr, hol, hok, hst⟩ := hrel
    by_cases hlt : k < l.length
    · obtain ⟨x, hx⟩ : ∃ x, l[k]? = some x := ⟨l[k], by simp [hlt]⟩
      obtain ⟨b, off, mv, rfl, _, _, c0, c1, c2, hmv⟩ := elems_hunk l3 hx
      have hd := drop_eq hx
      have HK1 := hok.out
      have HS1 := hst.out
      rw [hd] at HK1 HS1
      obtain ⟨z1, z2, z3, z4, z5, z6, z7, z8⟩ := oneFault_zero HK1.1
      have HK2 := Lib.hid HK1.2
      obtain ⟨xo, xn, xm⟩ := x
      simp only at c0 c1 c2 hmv z1 z3 z5 z7
      obtain ⟨o, rfl⟩ := Int.eq_ofNat_of_zero_le z3
      rw [strictGo] at HS1
      have HS2 := Lib.hid HS1
      have hmv := hmv.never hc
      have c0 := hc.cellNever c0
      have c1 := hc.cellNever c1
      have c2 := hc.cellNever c2
      obtain ⟨ma, mcap, rfl, _, _, _⟩ := rdv_slice hmv
      have HZ1 := Lib.hid z1
      have ln : (oldOf xm).length ≤ 120 := Nat.le_trans (those_le _ _) (scriptFault_len z1)
      have lm : (newOf xm).length ≤ 120 := Nat.le_trans (those_le _ _) (scriptFault_len z1)
      have E1 : Hid (oldN xm = (oldOf xm).length) := rfl
      clear hd HK1 HS1 z1 z2 z4 z6 z8 hx l3 hl hok hst
      have hA : Chg Never wr (wr.alloc (.cells #[.int .i64 o, .int .i64 xn, .slice ma xm.length mcap] 129)) := (Chg.refl Never wr).alloc _
      go_wp2_with fail
      refine (sides_any xm _ _ (hmv.never hA) HZ1.out).mono ?_
      rintro e w2 ⟨r, s, rfl, hc2, hr, hs⟩
      have hA2 := hA.trans hc2
      obtain ⟨x0, x1, x2⟩ := box3 hc2
      have ha2 := ha.never (hc.trans hA2)
      have hr2 := hr.sub (O' := Never) (fun _ _ h => h.elim)
      have hs2 := hs.sub (O' := Never) (fun _ _ h => h.elim)
      obtain ⟨ra, rcap, rfl, _, _, _⟩ := rdv_slice hr2
      obtain ⟨sa, scap, rfl, _, _, _⟩ := rdv_slice hs2
      clear hc2 hr hs hA
      go_wp2_with fail
      refine (stands_any a (oldOf xm) (o : Int) _ _ _ ha2 hr2 (by omega) (by omega) (by omega) (by omega)).mono ?_
      rintro e w3 ⟨rfl, hc3⟩
      have hA3 := hA2.trans hc3
      have x0 := hc3.cellNever x0
      have hs3 := hs2.never hc3
      have ha3 := ha2.never hc3
      clear hc3 hA2 hs2 ha2 hr2 x1 x2
      cases hsd : standsB a (o : Int) (oldOf xm) with
      | false =>
        have E := HS2.out
        rw [hsd] at E
        rw [if_neg (by decide)] at E
        have HE := Lib.hid E
        clear E hsd
        go_wp2_with fail
        go_ret3
        exact ⟨.slice none 0 0, by rw [← HE.out]; rfl, hc.trans hA3, by rw [← HE.out]; exact rdv_nil _ _⟩
      | true =>
        have s2 := (stands_split hsd).2.1
        simp only [Int.toNat_natCast] at s2
        have E := HS2.out
        rw [hsd, if_pos rfl] at E
        simp only [Int.toNat_natCast] at E
        have HE := Lib.hid E
        have hfo : frn ≤ o := by omega
        obtain ⟨sb, hrun0, hrun1, hsub⟩ := slice_str ha3 frn o hfo (by omega)
        have hrun := fun (wx : World) => hrun0 (frn : Int) (o : Int) wx rfl rfl
        clear hrun0 hrun1
        have lsub : ((a.drop frn).take (o - frn)).length = o - frn := by rw [List.length_take, List.length_drop]; omega
        have hsub' : Rdv w3 Never (.slice sb (o - frn) (acap - frn)) ((a.drop frn).take (o - frn)) := hsub
        have hown3 := hown.never hA3
        have hown3r := (hown3.rdv).sub (O' := Never) (fun _ _ h => h.elim)
        have hfl : ([outl, (a.drop frn).take (o - frn), newOf xm] : List (List ByteArray)).flatten = outl ++ (a.drop frn).take (o - frn) ++ newOf xm := by simp
        have HFL := Lib.hid hfl
        have LS := Lib.hid lsub
        have hb : ([outl, (a.drop frn).take (o - frn), newOf xm] : List (List ByteArray)).flatten.length ≤ 1000000 := by
          rw [hfl, List.length_append, List.length_append, lsub]; omega
        have HB2 : Hid ((outl ++ (a.drop frn).take (o - frn) ++ newOf xm).length ≤ 200 * (k + 1)) := by
          rw [Hid, List.length_append, List.length_append, lsub]; omega
        obtain ⟨oa, ocap, rfl, _⟩ := own_shape hown3
        have HB := Lib.hid hb
        clear E hsd hsub lsub hfl hown hb
        go_wp2_with fail
        refine (concat_any [outl, (a.drop frn).take (o - frn), newOf xm] _ _ (rdv_lit (e := 86) (cs := [_, _, _]) (heap_alloc_new _ _) rfl (by simp) ⟨hown3r.never ((Chg.refl Never _).alloc _), hsub'.never ((Chg.refl Never _).alloc _), hs3.never ((Chg.refl Never _).alloc _), trivial⟩) HB.out).mono ?_
        rintro e w4 ⟨r4, rfl, hc4, hown4⟩
        have hA4 := ((hc.trans hA3).alloc _).trans hc4
        have x0 := (((Chg.refl Never w3).alloc _).trans hc4).cellNever x0
        have hown5 := hown4.keep (O'' := Old w.heap.size) (Chg.refl Never _) (fun _ _ h => h.elim) (fun j _ hj => by
          have := (hc.trans hA3).size
          unfold Old at *
          simp only [World.size_alloc]
          omega)
        clear hown4 hc4 hown3 hown3r hsub'
        go_wp2_with fail
        go_roundw
        case rel => exact ⟨k + 1, o + oldN xm, _, _, by omega, by go_num, by rw [E1.out]; go_num, hA4, hown5, by rw [E1.out]; exact s2, by rw [HFL.out]; exact HB2.out, by
          have := HK2.out
          rw [Hid]
          push_cast
          exact this, by rw [Hid, HFL.out]; exact HE.out⟩
        case measure => simp [intOf] <;> omega
    · obtain rfl : k = l.length := by omega
      obtain ⟨sb, hrun0, hrun1, hsub⟩ := slice_str (ha.never hc) frn a.length hfr (Nat.le_refl _)
      have hrun := fun (wx : World) => hrun1 (frn : Int) wx rfl rfl
      clear hrun0 hrun1
      rw [List.take_of_length_le (by rw [List.length_drop]; omega)] at hsub
      have ht := hst.out
      rw [List.drop_length, strictGo] at ht
      have HT := Lib.hid ht
      have hle : outl.length + (a.drop frn).length ≤ 1000000000 := by rw [List.length_drop]; omega
      clear ht hst hok hl l3
      by_cases h60 : 60 < (outl ++ a.drop frn).length
      · have E := HT.out
        rw [if_pos h60] at E
        have HE := Lib.hid E
        clear E HT
        go_wp2_with (at_builtin; refine wpList_many (by rfl) _ _ 86 (by rfl) elemOk_str (O := Old w.heap.size) (by rfl) (by rfl) hown hsub (rd_str_any _ _ _) (old_lt hc) hle ?_; intro v' w5 hown2 hc2; have hc3 := own_step hc hown hc2; generalize outl ++ a.drop frn = RL at hown2 HE h60; obtain ⟨va', vc', rfl, _⟩ := own_shape hown2)
        go_ret3
        exact ⟨.slice none 0 0, by rw [← HE.out]; rfl, hc3, by rw [← HE.out]; exact rdv_nil _ _⟩
      · have E := HT.out
        rw [if_neg h60] at E
        have HE := Lib.hid E
        clear E HT
        go_wp2_with (at_builtin; refine wpList_many (by rfl) _ _ 86 (by rfl) elemOk_str (O := Old w.heap.size) (by rfl) (by rfl) hown hsub (rd_str_any _ _ _) (old_lt hc) hle ?_; intro v' w5 hown2 hc2; have hc3 := own_step hc hown hc2; generalize outl ++ a.drop frn = RL at hown2 HE h60; obtain ⟨va', vc', rfl, _⟩ := own_shape hown2)
        go_ret3
        exact ⟨_, by rw [← HE.out]; rfl, hc3, by rw [← HE.out]; exact hown2.rdv⟩

theorem strict_any (a : List ByteArray) (l : List Hunk) (va vl : Value) (w : World) (ha : Rdv w Never va a) (hl : Rdv w Never vl l) :
    Calls Tryz.prog 126 #[va, vl] w fun e w' => ∃ r, e = .returned (.tuple #[r, .int .i64 (strict a l).2.1, errV (strict a l).2.2]) ∧ Chg Never w w' ∧ Rdv w' (Old w.heap.size) r (strict a l).1 := by
  by_cases h1 : linesFault a = 0
  · by_cases h2 : (hunksFault l).2 = 0
    · exact strict_ok a l va vl w ha hl h1 (hunksFault_first h2)
    · have HS : Hid (strict a l = ([], (hunksFault l).1, (hunksFault l).2)) := by unfold Hid strict; rw [if_neg (by simp [h1]), if_pos h2]
      have H1 := Lib.hid h1
      have H2 := Lib.hid h2
      clear h1 h2
      go_enter Tryz.func126, Tryz.ntmps126
      go_wp2_with fail
      refine (check_any a _ _ ha).mono ?_
      rintro e w1 ⟨rfl, rfl⟩
      rw [H1.out, errV_zero]
      go_wp2_with fail
      refine (hunk_check_any l _ _ hl).mono ?_
      rintro e w1 ⟨rfl, hc1⟩
      rw [errV_pos H2.out]
      go_wp2_with fail
      go_ret3
      exact ⟨.slice none 0 0, by rw [HS.out, errV_pos H2.out]; rfl, hc1, by rw [HS.out]; exact rdv_nil _ _⟩
  · have HS : Hid (strict a l = ([], 0, linesFault a)) := if_pos h1
    have H1 := Lib.hid h1
    clear h1
    go_enter Tryz.func126, Tryz.ntmps126
    go_wp2_with fail
    refine (check_any a _ _ ha).mono ?_
    rintro e w1 ⟨rfl, rfl⟩
    rw [errV_pos H1.out]
    go_wp2_with fail
    go_ret3
    exact ⟨.slice none 0 0, by rw [HS.out, errV_pos H1.out]; rfl, Chg.refl _ _, by rw [HS.out]; exact rdv_nil _ _⟩
end Go.Proofs.YtjiaidchcldocaaGreatDoor
namespace Go.Proofs.YtjiaidchcldocaaGreatDoor
open Go.RowKit

end Go.Proofs.YtjiaidchcldocaaGreatDoor
namespace Go.Proofs.YtjiaidchcldocaaGreatDoor
open Go.RowKit

theorem take_all_succ {α : Type} {p : α → Prop} {l : List α} {k : Nat} {x : α} (h : ∀ y ∈ l.take k, p y) (hx : l[k]? = some x) (hp : p x) : ∀ y ∈ l.take (k + 1), p y := by
  intro y hy
  rw [List.take_add_one, hx] at hy
  rcases List.mem_append.1 hy with h' | h'
  · exact h y h'
  · simp at h'; rw [h']; exact hp

end Go.Proofs.YtjiaidchcldocaaGreatDoor
namespace Go.Proofs.YtjiaidchcldocaaGreatDoor
open Go.RowKit

/-- 's[i:j]' as a run, at whatever element type -/
theorem slice_gen {P : Program} {t : TypeId} (ht : P.underlying t = some (.slice (P.elem t))) {α : Type} [Dat α] (hsz : ∀ w, (sizeOf (P.elem t)).run P w = .ok (Dat.n α) w) {w0 : World} {O : Nat → Prop} {a : Option Addr} {cap : Nat} {l : List α} (h : Rdv w0 O (.slice a l.length cap) l) (i j : Nat) (hij : i ≤ j) (hj : j ≤ l.length) :
    ∃ b, (∀ (x y : Int) (w : World), x = i → y = j → (Instr.slice t (.slice a l.length cap) (some (.int .i64 x)) (some (.int .i64 y)) none).run P w = .ok (.slice b (j - i) (cap - i)) w) ∧
      (∀ (x : Int) (w : World), x = i → j = l.length → (Instr.slice t (.slice a l.length cap) (some (.int .i64 x)) none none).run P w = .ok (.slice b (j - i) (cap - i)) w) ∧
      (∀ (y : Int) (w : World), i = 0 → y = j → (Instr.slice t (.slice a l.length cap) none (some (.int .i64 y)) none).run P w = .ok (.slice b (j - i) (cap - i)) w) ∧
      Rdv w0 O (.slice b (j - i) (cap - i)) ((l.drop i).take (j - i)) := by
  have hr := rdv_sliced h i j hij hj
  obtain ⟨b, hb⟩ := sliced_isSlice a i j cap (Dat.n α)
  obtain ⟨a', cap', e, h1, h2, h3⟩ := rdv_slice h
  simp only [Value.slice.injEq, true_and] at e
  obtain ⟨rfl, rfl⟩ := e
  refine ⟨b, ?_, ?_, ?_, hb ▸ hr⟩
  · rintro x y w rfl rfl
    rw [run_slice_lh w t a l.length cap ht .i64 .i64 _ _ (by omega) (by omega) (by omega), hsz]
    simp only [Result.andThen_ok, Int.toNat_natCast]
    rw [hb]
  · rintro x w rfl rfl
    rw [run_slice_l w t a l.length cap ht .i64 _ (by omega) (by omega), hsz]
    simp only [Result.andThen_ok, Int.toNat_natCast]
    rw [hb]
  · rintro y w rfl rfl
    rw [run_slice_h w t a l.length cap ht .i64 _ (by omega) (by omega), hsz]
    simp only [Result.andThen_ok, Int.toNat_natCast]
    rw [hb]
end Go.Proofs.YtjiaidchcldocaaGreatDoor
namespace Go.Proofs.YtjiaidchcldocaaGreatDoor
open Go.RowKit
theorem last_of {l : List (List UInt8)} (h : l ≠ []) : ∃ i z, l = i ++ [z] := ⟨l.dropLast, l.getLast h, (List.dropLast_concat_getLast h).symm⟩
theorem rdv_strs {w : World} {O : Nat → Prop} {g : Nat} {e : TypeId} {l : List ByteArray} {n : Nat} (h : w.heap[g]? = some (.cells (l.map Value.string).toArray e (0, 0))) (hO : ¬ O g) (hn : n = l.length) (hl : l.length ≤ maxLen) (hs : ∀ x ∈ l, x.size ≤ maxLen) : Rdv w O (.slice (some ⟨g, 0, none⟩) n n) l := by
  subst hn
  refine ⟨some ⟨g, 0, none⟩, l.length, rfl, Nat.le_refl _, hl, ?_⟩
  intro i x hx
  refine ⟨g, 0, [.string x], rfl, hO, ?_, rfl, hs x (List.mem_of_getElem? hx)⟩
  intro j u hj
  match j, hj with
  | 0, hj =>
    simp only [List.getElem?_cons_zero, Option.some.injEq] at hj
    subst hj
    simp only [World.cell?, h]
    simp [Dat.n, hx]
end Go.Proofs.YtjiaidchcldocaaGreatDoor
namespace Go.Proofs.YtjiaidchcldocaaGreatDoor
open Go.RowKit

theorem parts_count (d : UInt8) : ∀ s, (parts d s).length ≤ s.length + 1
  | [] => by simp [parts]
  | c :: r => by
    have := parts_count d r
    by_cases h : c = d
    · subst h; rw [parts_sep]; simp; omega
    · obtain ⟨h', t, e⟩ := List.exists_cons_of_ne_nil (parts_ne d r)
      rw [parts_other h e]
      rw [e] at this
      simp at this ⊢
      omega

theorem parts_mem (d : UInt8) : ∀ (s : List UInt8) (x : List UInt8), x ∈ parts d s → x.length ≤ s.length
  | [], x, h => by simp [parts] at h; subst h; simp
  | c :: r, x, h => by
    have ih := parts_mem d r
    by_cases hc : c = d
    · subst hc
      rw [parts_sep] at h
      rcases List.mem_cons.1 h with rfl | h
      · simp
      · have := ih x h; simp; omega
    · obtain ⟨h', t, e⟩ := List.exists_cons_of_ne_nil (parts_ne d r)
      rw [parts_other hc e] at h
      rw [e] at ih
      rcases List.mem_cons.1 h with rfl | h
      · have := ih h' (List.mem_cons_self ..); simp; omega
      · have := ih x (List.mem_cons_of_mem _ h); simp; omega
end Go.Proofs.YtjiaidchcldocaaGreatDoor
namespace Go.Proofs.YtjiaidchcldocaaGreatDoor
open Go.RowKit

def letterI (c : Int) : Bool := decide (97 ≤ c) && decide (c ≤ 122) || decide (48 ≤ c) && decide (c ≤ 57) || (c == 46) || (c == 45)
theorem letterI_byte (c : UInt8) : letterI c.toNat = letterB c := by
  unfold letterI letterB
  have e1 : decide ((97 : Int) ≤ (c.toNat : Int)) = decide (97 ≤ c.toNat) := by congr 1; apply propext; omega
  have e2 : decide ((c.toNat : Int) ≤ 122) = decide (c.toNat ≤ 122) := by congr 1; apply propext; omega
  have e3 : decide ((48 : Int) ≤ (c.toNat : Int)) = decide (48 ≤ c.toNat) := by congr 1; apply propext; omega
  have e4 : decide ((c.toNat : Int) ≤ 57) = decide (c.toNat ≤ 57) := by congr 1; apply propext; omega
  have e5 : ((c.toNat : Int) == 46) = decide (c.toNat = 46) := by rw [Bool.eq_iff_iff, beq_iff_eq, decide_eq_true_eq]; omega
  have e6 : ((c.toNat : Int) == 45) = decide (c.toNat = 45) := by rw [Bool.eq_iff_iff, beq_iff_eq, decide_eq_true_eq]; omega
  rw [e1, e2, e3, e4, e5, e6]

set_option maxHeartbeats 1000000 in
theorem letter_any (c : Int) (w : World) (h0 : 0 ≤ c) (h1 : c < 256) :
    Calls Tryz.prog 129 #[.int .u8 c] w fun e w' => e = .returned (.bool (letterI c)) ∧ w' = w := by
  by_cases b1 : 97 ≤ c
  · by_cases b2 : c ≤ 122
    · have a1 : decide ((97 : Int) ≤ c) = true := by simp; omega
      have a2 : decide (c ≤ (122 : Int)) = true := by simp; omega
      have a3 : decide ((48 : Int) ≤ c) = true := by simp; omega
      have a4 : decide (c ≤ (57 : Int)) = false := by simp; omega
      have a5 : (c == 46) = false := by simp; omega
      have a6 : (c == 45) = false := by simp; omega
      have HL : Hid (letterI c = (true && true || true && false || false || false)) := by unfold Hid letterI; rw [a1, a2, a3, a4, a5, a6]
      try clear b5
      try clear b6
      go_enter Tryz.func129, Tryz.ntmps129
      go_wp2_with fail
      go_ret
      exact ⟨by rw [HL.out]; rfl, rfl⟩
    · have a1 : decide ((97 : Int) ≤ c) = true := by simp; omega
      have a2 : decide (c ≤ (122 : Int)) = false := by simp; omega
      have a3 : decide ((48 : Int) ≤ c) = true := by simp; omega
      have a4 : decide (c ≤ (57 : Int)) = false := by simp; omega
      have a5 : (c == 46) = false := by simp; omega
      have a6 : (c == 45) = false := by simp; omega
      have HL : Hid (letterI c = (true && false || true && false || false || false)) := by unfold Hid letterI; rw [a1, a2, a3, a4, a5, a6]
      try clear b5
      try clear b6
      go_enter Tryz.func129, Tryz.ntmps129
      go_wp2_with fail
      go_ret
      exact ⟨by rw [HL.out]; rfl, rfl⟩
  · by_cases b3 : 48 ≤ c
    · by_cases b4 : c ≤ 57
      · have a1 : decide ((97 : Int) ≤ c) = false := by simp; omega
        have a2 : decide (c ≤ (122 : Int)) = true := by simp; omega
        have a3 : decide ((48 : Int) ≤ c) = true := by simp; omega
        have a4 : decide (c ≤ (57 : Int)) = true := by simp; omega
        have a5 : (c == 46) = false := by simp; omega
        have a6 : (c == 45) = false := by simp; omega
        have HL : Hid (letterI c = (false && true || true && true || false || false)) := by unfold Hid letterI; rw [a1, a2, a3, a4, a5, a6]
        try clear b5
        try clear b6
        go_enter Tryz.func129, Tryz.ntmps129
        go_wp2_with fail
        go_ret
        exact ⟨by rw [HL.out]; rfl, rfl⟩
      · have a1 : decide ((97 : Int) ≤ c) = false := by simp; omega
        have a2 : decide (c ≤ (122 : Int)) = true := by simp; omega
        have a3 : decide ((48 : Int) ≤ c) = true := by simp; omega
        have a4 : decide (c ≤ (57 : Int)) = false := by simp; omega
        have a5 : (c == 46) = false := by simp; omega
        have a6 : (c == 45) = false := by simp; omega
        have HL : Hid (letterI c = (false && true || true && false || false || false)) := by unfold Hid letterI; rw [a1, a2, a3, a4, a5, a6]
        try clear b5
        try clear b6
        go_enter Tryz.func129, Tryz.ntmps129
        go_wp2_with fail
        go_ret
        exact ⟨by rw [HL.out]; rfl, rfl⟩
    · by_cases b5 : c = 46
      · have a1 : decide ((97 : Int) ≤ c) = false := by simp; omega
        have a2 : decide (c ≤ (122 : Int)) = true := by simp; omega
        have a3 : decide ((48 : Int) ≤ c) = false := by simp; omega
        have a4 : decide (c ≤ (57 : Int)) = true := by simp; omega
        have a5 : (c == 46) = true := by simp; omega
        have a6 : (c == 45) = false := by simp; omega
        have HL : Hid (letterI c = (false && true || false && true || true || false)) := by unfold Hid letterI; rw [a1, a2, a3, a4, a5, a6]
        try clear b5
        try clear b6
        go_enter Tryz.func129, Tryz.ntmps129
        go_wp2_with fail
        go_ret
        exact ⟨by rw [HL.out]; rfl, rfl⟩
      · by_cases b6 : c = 45
        · have a1 : decide ((97 : Int) ≤ c) = false := by simp; omega
          have a2 : decide (c ≤ (122 : Int)) = true := by simp; omega
          have a3 : decide ((48 : Int) ≤ c) = false := by simp; omega
          have a4 : decide (c ≤ (57 : Int)) = true := by simp; omega
          have a5 : (c == 46) = false := by simp; omega
          have a6 : (c == 45) = true := by simp; omega
          have HL : Hid (letterI c = (false && true || false && true || false || true)) := by unfold Hid letterI; rw [a1, a2, a3, a4, a5, a6]
          try clear b5
          try clear b6
          go_enter Tryz.func129, Tryz.ntmps129
          go_wp2_with fail
          go_ret
          exact ⟨by rw [HL.out]; rfl, rfl⟩
        · have a1 : decide ((97 : Int) ≤ c) = false := by simp; omega
          have a2 : decide (c ≤ (122 : Int)) = true := by simp; omega
          have a3 : decide ((48 : Int) ≤ c) = false := by simp; omega
          have a4 : decide (c ≤ (57 : Int)) = true := by simp; omega
          have a5 : (c == 46) = false := by simp; omega
          have a6 : (c == 45) = false := by simp; omega
          have HL : Hid (letterI c = (false && true || false && true || false || false)) := by unfold Hid letterI; rw [a1, a2, a3, a4, a5, a6]
          try clear b5
          try clear b6
          go_enter Tryz.func129, Tryz.ntmps129
          go_wp2_with fail
          go_ret
          exact ⟨by rw [HL.out]; rfl, rfl⟩

theorem emp_false {x : ByteArray} (h : x.data.toList ≠ []) : x.toList.isEmpty = false := by rw [Lib.toList_data]; simpa using h
theorem str_false {x : ByteArray} {l : List UInt8} (h : x.data.toList ≠ l) : (x.toList == l) = false := by rw [Lib.toList_data]; simpa using h
/-! ### names -/
theorem nameOk_iff {x : List UInt8} : nameOk x = true ↔ x ≠ [] ∧ x ≠ [46] ∧ x ≠ [46, 46] ∧ ∀ c ∈ x, letterB c = true := by
  unfold nameOk
  simp only [Bool.and_eq_true, Bool.not_eq_true', beq_eq_false_iff_ne, List.all_eq_true, ne_eq]
  constructor
  · rintro ⟨⟨⟨a, b⟩, c⟩, d⟩; exact ⟨a, b, c, d⟩
  · rintro ⟨a, b, c, d⟩; exact ⟨⟨⟨a, b⟩, c⟩, d⟩
theorem pathFault_long {s : ByteArray} (h : 20 < s.size) : pathFault s = 3 := if_pos h
theorem pathFault_bad {s : ByteArray} (h : ¬ 20 < s.size) {x : List UInt8} (hx : x ∈ parts 47 s.data.toList) (hb : nameOk x = false) : pathFault s = 5 := by
  unfold pathFault
  rw [if_neg h, if_neg]
  intro e
  rw [List.all_eq_true] at e
  rw [e x hx] at hb
  cases hb
theorem pathFault_ok {s : ByteArray} (h : ¬ 20 < s.size) (ha : ∀ x ∈ parts 47 s.data.toList, nameOk x = true) : pathFault s = 0 := by
  unfold pathFault
  rw [if_neg h, if_pos]
  rw [List.all_eq_true]; exact ha

set_option maxHeartbeats 1000000 in
set_option maxRecDepth 100000 in
theorem line_path_any (s : ByteArray) (w : World) (m : Int) (hm : w.cell? ⟨1, 0, none⟩ = some (.int .i64 m)) :
    Calls Tryz.prog 80 #[.string s] w fun e w' => e = .returned (errV (pathFault s)) ∧ Chg Never w w' := by
  by_cases h20 : 20 < s.size
  · have HF := Lib.hid (pathFault_long h20)
    go_enter Tryz.func80, Tryz.ntmps80
    go_wp2_with fail
    go_ret
    exact ⟨by rw [HF.out]; rfl, Chg.refl _ _⟩
  · have HB := fun x hx hb => pathFault_bad (x := x) h20 hx hb
    have HO := pathFault_ok h20
    have hcnt : (parts 47 s.data.toList).length ≤ s.size + 1 := by rw [Lib.size_eq]; exact parts_count 47 _
    have HSP : Hid (Lib.splitB ⟨#[47]⟩ 0 (Lib.countB s ⟨#[47]⟩) s = (parts 47 s.data.toList).map toB) := splitB_parts 47 s
    have HLEN : Hid (Lib.countB s ⟨#[47]⟩ + 1 = ((parts 47 s.data.toList).map toB).length) := by
      have := Lib.splitB_all ⟨#[47]⟩ (by decide) 0 _ s rfl
      rw [Hid, ← this, HSP.out]
    have hmem : ∀ x ∈ parts 47 s.data.toList, x.length ≤ s.size := fun x hx => by rw [Lib.size_eq]; exact parts_mem 47 _ x hx
    have HMEM := Lib.hid hmem
    have HCNT := Lib.hid hcnt
    clear hmem hcnt
    have HH := Lib.hid (And.intro HB HO)
    clear HB HO
    go_enter Tryz.func80, Tryz.ntmps80
    go_wp2_with fail
    refine (Tryz.strings_Split s ⟨#[47]⟩ m _ (by omega) hm (by decide)).mono ?_
    rintro e w2 ⟨rfl, rfl⟩
    rw [HSP.out, HLEN.out]
    have hmem := HMEM.out
    have hcnt := HCNT.out
    have hA : Chg Never w (w.alloc (.cells (((parts 47 s.data.toList).map toB).map Value.string).toArray 9)) := (Chg.refl Never w).alloc _
    have hR0 : Rdv (w.alloc (.cells (((parts 47 s.data.toList).map toB).map Value.string).toArray 9)) Never (.slice (some ⟨w.heap.size, 0, none⟩) ((parts 47 s.data.toList).map toB).length ((parts 47 s.data.toList).map toB).length) ((parts 47 s.data.toList).map toB) :=
      rdv_strs (heap_alloc_new _ _) (fun h => h) rfl (by rw [List.length_map]; unfold maxLen; omega) (fun x hx => by
        obtain ⟨y, hy, rfl⟩ := List.mem_map.1 hx
        rw [Lib.size_eq, toB_data]
        have := hmem y hy
        unfold maxLen; omega)
    have hLL : ((parts 47 s.data.toList).map toB).length ≤ 21 := by rw [List.length_map]; omega
    have HM : Hid (∀ x ∈ (parts 47 s.data.toList).map toB, x.data.toList ∈ parts 47 s.data.toList ∧ x.size ≤ 20) := by
      intro x hx
      obtain ⟨y, hy, rfl⟩ := List.mem_map.1 hx
      have := hmem y hy
      exact ⟨by rw [toB_data]; exact hy, by rw [Lib.size_eq, toB_data]; omega⟩
    have HM2 : Hid (∀ y ∈ parts 47 s.data.toList, toB y ∈ (parts 47 s.data.toList).map toB) := fun y hy => List.mem_map.2 ⟨y, hy, rfl⟩
    clear hmem hcnt HSP HLEN
    generalize (parts 47 s.data.toList).map toB = L at hR0 hA hLL HM HM2 ⊢
    generalize w.alloc (.cells (L.map Value.string).toArray 9) = w3 at hR0 hA ⊢
    obtain ⟨la, lc, hlv, h1, h2, h3⟩ := rdv_slice hR0
    simp only [Value.slice.injEq, true_and] at hlv
    obtain ⟨rfl, rfl⟩ := hlv
    go_wp2_with fail
    go_loop [13] (fun i => ∃ k : Nat, k ≤ L.length ∧ i = .int .i64 k ∧ Hid (∀ x ∈ L.take k, nameOk x.data.toList = true)) (fun i => L.length - (intOf i).toNat)
    case atStart => exact ⟨0, Nat.zero_le _, rfl, fun x hx => by simp at hx⟩
    case round =>
      obtain ⟨k, hk, rfl, hf⟩ := hrel
      by_cases hlt : k < L.length
      · obtain ⟨x, hx⟩ : ∃ x, L[k]? = some x := ⟨L[k], by simp [hlt]⟩
        obtain ⟨b, off, hbo, _, _, c0, hxs⟩ := elems_str h3 hx
        simp only [Option.some.injEq, Addr.mk.injEq, and_true] at hbo
        obtain ⟨rfl, rfl⟩ := hbo
        rw [Nat.zero_add] at c0
        obtain ⟨hxm, hx20⟩ := HM.out x (List.mem_of_getElem? hx)
        have HX := Lib.hid hx
        have HXM := Lib.hid hxm
        clear hx hxm
        by_cases b1 : x.data.toList = []
        · have HN := Lib.hid (HH.out.1 _ HXM.out (by rw [b1]; rfl))
          have t1 : x.toList.isEmpty = true := by rw [Lib.toList_data, b1]; rfl
          clear b1
          go_wp2_with fail
          go_ret
          exact ⟨by rw [HN.out]; rfl, hA⟩
        · have t1 := emp_false b1
          by_cases b2 : x.data.toList = [46]
          · have HN := Lib.hid (HH.out.1 _ HXM.out (by rw [b2]; rfl))
            have t2 : (x.toList == [46]) = true := by rw [Lib.toList_data, b2]; rfl
            clear b1 b2
            go_wp2_with fail
            go_ret
            exact ⟨by rw [HN.out]; rfl, hA⟩
          · have t2 := str_false b2
            by_cases b3 : x.data.toList = [46, 46]
            · have HN := Lib.hid (HH.out.1 _ HXM.out (by rw [b3]; rfl))
              have t3 : (x.toList == [46, 46]) = true := by rw [Lib.toList_data, b3]; rfl
              clear b1 b2 b3
              go_wp2_with fail
              go_ret
              exact ⟨by rw [HN.out]; rfl, hA⟩
            · have t3 := str_false b3
              have HBB := Lib.hid (And.intro b1 (And.intro b2 b3))
              clear b1 b2 b3
              go_wp2_with fail
              go_loop [30] (fun i => ∃ j : Nat, j ≤ x.size ∧ i = .int .i64 j ∧ Hid (∀ q, q < j → ∀ c, x.data.toList[q]? = some c → letterB c = true)) (fun i => x.size - (intOf i).toNat)
              case atStart => exact ⟨0, Nat.zero_le _, rfl, fun q h => absurd h (Nat.not_lt_zero q)⟩
              case round =>
                obtain ⟨j, hj, rfl, hl⟩ := hrel
                by_cases hjl : j < x.size
                · have HAT := Lib.hid (byte_at hjl)
                  have hlt256 := (x[j]'hjl).toNat_lt
                  cases hlb : letterI ((x[j]'hjl).toNat : Int) with
                  | true =>
                    have HLB : Hid (letterB (x[j]'hjl) = true) := by rw [Hid, ← letterI_byte]; exact hlb
                    go_wp2_with fail
                    refine (letter_any _ _ (by omega) (by omega)).mono ?_
                    rintro e w5 ⟨rfl, hw5⟩
                    rw [hw5, hlb]
                    clear hlb hw5
                    go_wp2_with fail
                    go_round
                    case rel => exact ⟨j + 1, by omega, by go_num, fun q hq c hc => by
                      by_cases e : q = j
                      · subst e
                        rw [HAT.out] at hc
                        injection hc with hc
                        rw [← hc]; exact HLB.out
                      · exact hl.out q (by omega) c hc⟩
                    case measure => simp [intOf] <;> omega
                  | false =>
                    have HN := Lib.hid (HH.out.1 _ HXM.out (by
                      rw [Bool.eq_false_iff]
                      intro e
                      have := (nameOk_iff.1 e).2.2.2 _ (List.mem_of_getElem? HAT.out)
                      rw [← letterI_byte, hlb] at this
                      cases this))
                    go_wp2_with fail
                    refine (letter_any _ _ (by omega) (by omega)).mono ?_
                    rintro e w5 ⟨rfl, hw5⟩
                    rw [hw5, hlb]
                    clear hlb hw5
                    go_wp2_with fail
                    go_ret
                    exact ⟨by rw [HN.out]; rfl, hA⟩
                · have HOK : Hid (nameOk x.data.toList = true) := nameOk_iff.2 ⟨HBB.out.1, HBB.out.2.1, HBB.out.2.2, fun c hc => by
                    obtain ⟨q, hq⟩ := List.getElem?_of_mem hc
                    have hql := (List.getElem?_eq_some_iff.1 hq).1
                    rw [← Lib.size_eq] at hql
                    exact hl.out q (by omega) c hq⟩
                  clear hl
                  go_wp2_with fail
                  go_round
                  case rel => exact ⟨k + 1, by omega, by go_num, take_all_succ hf.out HX.out HOK.out⟩
                  case measure => simp [intOf] <;> omega
      · go_wp2_with fail
        go_ret
        have e := hf.out
        rw [List.take_of_length_le (by omega)] at e
        have e2 : pathFault s = 0 := HH.out.2 (fun y hy => by have := e _ (HM2.out y hy); rw [toB_data] at this; exact this)
        exact ⟨by rw [e2]; rfl, hA⟩

/-! ### the document's way -/
structure NameInv (s : ByteArray) (q k : Nat) (L : List ByteArray) : Prop where
  p : PartsInv 47 s q k L
  ok : ∀ x ∈ L, nameOk x.data.toList = true
  let_ : ∀ j, q ≤ j → j < k → ∀ c, s.data.toList[j]? = some c → letterB c = true
theorem NameInv.step {s : ByteArray} {q k : Nat} {L : List ByteArray} {c : UInt8} (h : NameInv s q k L) (hk : s.data.toList[k]? = some c) (hc : c ≠ 47) (hl : letterB c = true) : NameInv s q (k + 1) L :=
  ⟨h.p.step hk hc, h.ok, fun j h1 h2 d hd => by
    by_cases e : j = k
    · subst e
      rw [hk] at hd
      injection hd with hd
      rw [← hd]; exact hl
    · exact h.let_ j h1 (by omega) d hd⟩
theorem NameInv.name {s : ByteArray} {q k : Nat} {L : List ByteArray} (h : NameInv s q k L) : ∀ c ∈ (s.extract q k).data.toList, letterB c = true := by
  intro c hc
  rw [Lib.extract_data] at hc
  obtain ⟨i, hi⟩ := List.getElem?_of_mem hc
  rw [List.getElem?_take] at hi
  split at hi
  · rw [List.getElem?_drop] at hi
    exact h.let_ (q + i) (by omega) (by omega) c hi
  · cases hi
theorem NameInv.cut {s : ByteArray} {q k : Nat} {L : List ByteArray} (h : NameInv s q k L) (hq : q ≤ k) (hk : s.data.toList[k]? = some 47) (hn : nameOk (s.extract q k).data.toList = true) : NameInv s (k + 1) (k + 1) (L ++ [s.extract q k]) :=
  ⟨h.p.cut hq hk, fun x hx => by
    rcases List.mem_append.1 hx with hx | hx
    · exact h.ok x hx
    · rw [List.mem_singleton] at hx
      rw [hx]; exact hn, fun j h1 h2 => by omega⟩
theorem NameInv.all {s : ByteArray} {q : Nat} {L : List ByteArray} (h : NameInv s q s.size L) (hn : nameOk (s.extract q s.size).data.toList = true) : ∀ x ∈ parts 47 s.data.toList, nameOk x = true := by
  intro x hx
  have hm : toB x ∈ (parts 47 s.data.toList).map toB := List.mem_map.2 ⟨x, hx, rfl⟩
  rw [h.p.fin] at hm
  have : nameOk (toB x).data.toList = true := by
    rcases List.mem_append.1 hm with hm | hm
    · exact h.ok _ hm
    · rw [List.mem_singleton] at hm
      rw [hm]; exact hn
  rwa [toB_data] at this
end Go.Proofs.YtjiaidchcldocaaGreatDoor
namespace Go.Proofs.YtjiaidchcldocaaGreatDoor
open Go.RowKit

theorem elems_file {w : World} {O : Nat → Prop} {a : Option Addr} {l : List File} (h : Elems w O a l) {i : Nat} {x : File} (hx : l[i]? = some x) :
    ∃ b off v, a = some ⟨b, off, none⟩ ∧ ¬ O b ∧ b < w.heap.size ∧ w.cell? ⟨b, off + i * 2, none⟩ = some (.string x.path) ∧ w.cell? ⟨b, off + i * 2 + 1, none⟩ = some v ∧ x.path.size ≤ maxLen ∧ Rdv w O v x.lines := by
  obtain ⟨b, off, es, ha, hb, hcs, v, rfl, hp, hv⟩ := h i x hx
  refine ⟨b, off, v, ha, hb, hcs.lt (by simp), ?_, ?_, hp, hv⟩
  · simpa [Dat.n] using hcs 0 _ rfl
  · simpa [Dat.n] using hcs 1 _ rfl
def prevOf (t : List File) (k : Nat) : Option ByteArray := if k = 0 then none else (t[k - 1]?).map (·.path)
theorem prevOf_succ {t : List File} {k : Nat} {f : File} (h : t[k]? = some f) : prevOf t (k + 1) = some f.path := by unfold prevOf; simp [h]
theorem treeGo_next {t : List File} {k : Nat} {f : File} {prev : Option ByteArray} (hd : t.drop k = f :: t.drop (k + 1)) (h1 : fileFault f = 0) (h2 : prev.any (fun p => leqB f.path p) = false) : treeGo k prev (t.drop k) = treeGo (k + 1) (some f.path) (t.drop (k + 1)) := by
  rw [hd, treeGo, if_neg (by simp [h1]), if_neg (by rw [h2]; decide)]
theorem treeGo_bad {t : List File} {k : Nat} {f : File} {prev : Option ByteArray} (hd : t.drop k = f :: t.drop (k + 1)) (h1 : fileFault f ≠ 0) : treeGo k prev (t.drop k) = (k, fileFault f) := by
  rw [hd, treeGo, if_pos h1]
theorem treeGo_order {t : List File} {k : Nat} {f : File} {p : ByteArray} (hd : t.drop k = f :: t.drop (k + 1)) (h1 : fileFault f = 0) (h2 : leqB f.path p = true) : treeGo k (some p) (t.drop k) = (k, 2) := by
  rw [hd, treeGo, if_neg (by simp [h1]), if_pos (by simpa using h2)]
theorem treeGo_end {t : List File} {prev : Option ByteArray} : treeGo t.length prev (t.drop t.length) = (0, 0) := by rw [List.drop_length]; rfl

set_option maxHeartbeats 2000000 in
set_option maxRecDepth 100000 in
theorem tree_check_any (t : List File) (v : Value) (w : World) (h : Rdv w Never v t) (m : Int) (hm : w.cell? ⟨1, 0, none⟩ = some (.int .i64 m)) :
    Calls Tryz.prog 34 #[v] w fun e w' => e = .returned (.tuple #[.int .i64 (treeFault t).1, errV (treeFault t).2]) ∧ Chg Never w w' := by
  obtain ⟨a, cap, rfl, h1, h2, h3⟩ := rdv_slice h
  unfold maxLen at h2
  by_cases h8 : 8 < t.length
  · have HF : Hid (treeFault t = (0, 3)) := if_pos h8
    go_enter Tryz.func34, Tryz.ntmps34
    go_wp2_with fail
    go_ret2
    exact ⟨by rw [HF.out]; rfl, Chg.refl _ _⟩
  · have HF : Hid (treeFault t = treeGo 0 (prevOf t 0) (t.drop 0)) := if_neg h8
    go_enter Tryz.func34, Tryz.ntmps34
    go_wp2_with fail
    go_loopw [14] (fun i wr => ∃ k : Nat, k ≤ t.length ∧ i = .int .i64 k ∧ Chg Never w wr ∧ Hid (treeFault t = treeGo k (prevOf t k) (t.drop k))) (fun i _ => t.length - (intOf i).toNat)
    case atStart => exact ⟨0, Nat.zero_le _, rfl, Chg.refl _ _, HF.out⟩
    case round =>
      clear HF
      obtain ⟨k, hk, rfl, hc, hG⟩ := hrel
      by_cases hlt : k < t.length
      · obtain ⟨x, hx⟩ : ∃ x, t[k]? = some x := ⟨t[k], by simp [hlt]⟩
        obtain ⟨b, off, lv, rfl, _, _, c0, c1, hps, hlv⟩ := elems_file h3 hx
        obtain ⟨la, lcap, rfl, _, _, _⟩ := rdv_slice hlv
        have c0 := hc.cellNever c0
        have c1 := hc.cellNever c1
        have HD := Lib.hid (drop_eq hx)
        have HPV := Lib.hid (prevOf_succ hx)
        have HX := Lib.hid hx
        have hA : Chg Never wr (wr.alloc (.cells #[.string x.path, .slice la x.lines.length lcap] 117)) := (Chg.refl Never wr).alloc _
        have b0 : (wr.alloc (.cells #[.string x.path, .slice la x.lines.length lcap] 117)).cell? ⟨wr.heap.size, 0, none⟩ = some (.string x.path) := by simp only [World.cell?]; rw [heap_alloc_new]; rfl
        have b1 : (wr.alloc (.cells #[.string x.path, .slice la x.lines.length lcap] 117)).cell? ⟨wr.heap.size, 1, none⟩ = some (.slice la x.lines.length lcap) := by simp only [World.cell?]; rw [heap_alloc_new]; rfl
        clear hx
        by_cases p0 : pathFault x.path = 0
        · have P0 := Lib.hid p0
          by_cases l0 : linesFault x.lines = 0
          · have HFF : Hid (fileFault x = 0) := by unfold Hid fileFault; rw [if_pos p0, l0]
            have L0 := Lib.hid l0
            clear p0 l0
            go_wp2_with fail
            generalize wr.alloc (.cells #[.string x.path, .slice la x.lines.length lcap] 117) = w3 at hA b0 b1 ⊢
            have hc3 := hc.trans hA
            refine (line_path_any x.path _ m (hc3.cellNever hm)).mono ?_
            rintro e w4 ⟨rfl, hc4⟩
            have b0 := hc4.cellNever b0
            have b1 := hc4.cellNever b1
            have hcD := hc3.trans hc4
            clear hc4 hc3 hA c0 c1
            rw [P0.out, errV_zero]
            go_wp2_with fail
            refine (check_any x.lines _ _ (hlv.never hcD)).mono ?_
            rintro e w5 ⟨rfl, rfl⟩
            rw [L0.out, errV_zero]
            clear b1
            rcases Nat.eq_zero_or_pos k with h0 | h0
            · subst h0
              have HNX : Hid (treeFault t = treeGo (0 + 1) (prevOf t (0 + 1)) (t.drop (0 + 1))) := by rw [Hid, HPV.out, hG.out]; exact treeGo_next HD.out HFF.out rfl
              clear hG
              go_wp2_with fail
              go_quiet (fail)
              go_wp2_with fail
              go_roundw
              case rel => exact ⟨0 + 1, by omega, by go_num, hcD.drewN _, HNX⟩
              case measure => simp [intOf] <;> omega
            · obtain ⟨k', rfl⟩ : ∃ k', k = k' + 1 := ⟨k - 1, by omega⟩
              obtain ⟨y, hy⟩ : ∃ y, t[k']? = some y := ⟨t[k']'(by omega), by simp [show k' < t.length by omega]⟩
              obtain ⟨b', off', lv', hbo, _, _, y0, _, _, _⟩ := elems_file h3 hy
              simp only [Option.some.injEq, Addr.mk.injEq, and_true] at hbo
              obtain ⟨rfl, rfl⟩ := hbo
              have y0 := hcD.cellNever y0
              have HPY : Hid (prevOf t (k' + 1) = some y.path) := prevOf_succ hy
              have z1 : (k' : Int) + 1 - 1 = k' := by omega
              have z2 : decide ((0 : Int) < (k' : Int) + 1) = true := decide_eq_true (by omega)
              clear hy
              rcases less_tri x.path y.path with g | g | g
              · have HE : Hid (treeFault t = (k' + 1, 2)) := by rw [Hid, hG.out, HPY.out]; exact treeGo_order HD.out HFF.out (leqB_true.2 (less_asymm g))
                have a1 : Op.bytesLess x.path.toList y.path.toList = true := g
                clear g hG
                go_wp2_with fail
                go_quiet (fail)
                go_wp2_with fail; go_ret2; exact ⟨by rw [HE.out]; rfl, hcD.drewN _⟩
              · have HE : Hid (treeFault t = (k' + 1, 2)) := by rw [Hid, hG.out, HPY.out]; exact treeGo_order HD.out HFF.out (leqB_true.2 (by rw [g]; exact less_irrefl _))
                have a1 : Op.bytesLess x.path.toList y.path.toList = false := by rw [g]; exact bl_irrefl _
                have a2 : (x.path.toList == y.path.toList) = true := by rw [g]; exact beq_self_eq_true _
                clear g hG
                go_wp2_with fail
                go_quiet (fail)
                go_wp2_with fail; go_ret2; exact ⟨by rw [HE.out]; rfl, hcD.drewN _⟩
              · have HNX : Hid (treeFault t = treeGo (k' + 1 + 1) (prevOf t (k' + 1 + 1)) (t.drop (k' + 1 + 1))) := by
                  rw [Hid, HPV.out, hG.out]
                  refine treeGo_next HD.out HFF.out ?_
                  rw [HPY.out, Option.any_some, Bool.eq_false_iff]
                  intro e
                  rw [leqB_true.1 e] at g; cases g
                have a1 : Op.bytesLess x.path.toList y.path.toList = false := less_asymm g
                have a2 := str_beq_false (less_ne g).symm
                clear g hG
                go_wp2_with fail
                go_quiet (fail)
                go_wp2_with fail
                go_roundw
                case rel => exact ⟨k' + 1 + 1, by omega, by go_num, hcD.drewN _, HNX⟩
                case measure => simp [intOf] <;> omega
          · have HE : Hid (treeFault t = (k, linesFault x.lines)) := by
              have e : fileFault x = linesFault x.lines := by unfold fileFault; rw [if_pos p0]
              rw [Hid, hG.out, treeGo_bad HD.out (by rw [e]; exact l0), e]
            have L0 := Lib.hid l0
            clear p0 hG l0
            go_wp2_with fail
            generalize wr.alloc (.cells #[.string x.path, .slice la x.lines.length lcap] 117) = w3 at hA b0 b1 ⊢
            have hc3 := hc.trans hA
            refine (line_path_any x.path _ m (hc3.cellNever hm)).mono ?_
            rintro e w4 ⟨rfl, hc4⟩
            have b0 := hc4.cellNever b0
            have b1 := hc4.cellNever b1
            have hcD := hc3.trans hc4
            clear hc4 hc3 hA c0 c1
            rw [P0.out, errV_zero]
            go_wp2_with fail
            refine (check_any x.lines _ _ (hlv.never hcD)).mono ?_
            rintro e w5 ⟨rfl, rfl⟩
            rw [errV_pos L0.out]
            go_wp2_with fail
            go_ret2
            exact ⟨by rw [HE.out, errV_pos L0.out]; rfl, hcD⟩
        · have HE : Hid (treeFault t = (k, pathFault x.path)) := by
            have e : fileFault x = pathFault x.path := by unfold fileFault; rw [if_neg p0]
            rw [Hid, hG.out, treeGo_bad HD.out (by rw [e]; exact p0), e]
          have P0 := Lib.hid p0
          clear p0 hG
          go_wp2_with fail
          generalize wr.alloc (.cells #[.string x.path, .slice la x.lines.length lcap] 117) = w3 at hA b0 b1 ⊢
          have hc3 := hc.trans hA
          refine (line_path_any x.path _ m (hc3.cellNever hm)).mono ?_
          rintro e w4 ⟨rfl, hc4⟩
          have b0 := hc4.cellNever b0
          have b1 := hc4.cellNever b1
          have hcD := hc3.trans hc4
          clear hc4 hc3 hA c0 c1
          rw [errV_pos P0.out]
          go_wp2_with fail
          go_ret2
          exact ⟨by rw [HE.out, errV_pos P0.out]; rfl, hcD⟩
      · obtain rfl : k = t.length := by omega
        have e := hG.out
        rw [treeGo_end] at e
        have HE := Lib.hid e
        clear hG e
        go_wp2_with fail
        go_ret2
        exact ⟨by rw [HE.out]; rfl, hc⟩

end Go.Proofs.YtjiaidchcldocaaGreatDoor
