/-
  THE WALKS of hunk.Cut, Turned, Turn.
-/
import Derived.Test.YtpoammapjmddfaaDoorCut
import Derived.Test.YtpoammapjmddfaaDoorFits
namespace Go.Proofs.YtpoammapjmddfaaDoor
open Go.RowKit

def cutR (s : List Mark) (n : Int) : List Hunk := if cutFault s n = 0 then cutOf s n else []

set_option maxHeartbeats 800000 in
theorem Cut_any (s : List Mark) (n : Int) (v : Value) (w : World) (hs : Rdv w Never v s) (hn : I64 n) :
    Calls Tryd.prog 93 #[v, .int .i64 n] w fun e w' => ∃ r, e = .returned (.tuple #[r, errV (cutFault s n)]) ∧ Chg Never w w' ∧ Rdv w' (Old w.heap.size) r (cutR s n) := by
  obtain ⟨sa, scap, rfl, _, _, _⟩ := rdv_slice hs
  by_cases h1 : scriptFault s = 0
  · have hlen := scriptFault_len h1
    have H1 := Lib.hid h1
    have l1 := oldN_le s
    have l2 := newN_le s
    by_cases h2 : n < 0
    · have E : Hid (cutFault s n = 1) := by unfold cutFault Hid; rw [if_neg (by simp [h1]), if_pos (.inl h2)]
      clear h1
      go_enter Tryd.func93, Tryd.ntmps93
      go_wp2_with fail
      refine (edit_check_any s _ _ hs).mono ?_
      rintro e w1 ⟨rfl, hc1⟩
      rw [H1.out, errV_zero]
      go_wp2_with fail
      go_ret2
      exact ⟨.slice none 0 0, by rw [E.out]; rfl, hc1, by unfold cutR; rw [if_neg (by rw [E.out]; decide)]; exact rdv_nil _ _⟩
    · by_cases h3 : 1000 < n
      · have E : Hid (cutFault s n = 1) := by unfold cutFault Hid; rw [if_neg (by simp [h1]), if_pos (.inr h3)]
        clear h1
        go_enter Tryd.func93, Tryd.ntmps93
        go_wp2_with fail
        refine (edit_check_any s _ _ hs).mono ?_
        rintro e w1 ⟨rfl, hc1⟩
        rw [H1.out, errV_zero]
        go_wp2_with fail
        go_ret2
        exact ⟨.slice none 0 0, by rw [E.out]; rfl, hc1, by unfold cutR; rw [if_neg (by rw [E.out]; decide)]; exact rdv_nil _ _⟩
      · by_cases h4 : 60 < oldN s ∨ 60 < newN s
        · have E : Hid (cutFault s n = 3) := by unfold cutFault Hid; rw [if_neg (by simp [h1]), if_neg (by omega), if_pos h4]
          clear h1
          rcases (show 60 < oldN s ∨ oldN s ≤ 60 ∧ 60 < newN s by omega) with h5 | ⟨h5, h6⟩
          all_goals
            clear h4
            have t1 : decide (n < 0) = false := by simp; omega
            have t2 : decide (1000 < n) = false := by simp; omega
            go_enter Tryd.func93, Tryd.ntmps93
            go_wp2_with fail
            refine (edit_check_any s _ _ hs).mono ?_
            rintro e w1 ⟨rfl, hc1⟩
            rw [H1.out, errV_zero]
            go_wp2_with fail
            refine (size_any ⟨0, 0, s⟩ _ _ (hs.never hc1)).mono ?_
            rintro e w2 ⟨rfl, hc2⟩
            go_wp2_with fail
            go_ret2
            exact ⟨.slice none 0 0, by rw [E.out]; rfl, hc1.trans hc2, by unfold cutR; rw [if_neg (by rw [E.out]; decide)]; exact rdv_nil _ _⟩
        · have E : Hid (cutFault s n = 0) := by unfold cutFault Hid; rw [if_neg (by simp [h1]), if_neg (by omega), if_neg h4]
          clear h1
          have t1 : decide (n < 0) = false := by simp; omega
          have t2 : decide (1000 < n) = false := by simp; omega
          have h5 : oldN s ≤ 60 := by omega
          have h6 : newN s ≤ 60 := by omega
          clear h4
          go_enter Tryd.func93, Tryd.ntmps93
          go_wp2_with fail
          refine (edit_check_any s _ _ hs).mono ?_
          rintro e w1 ⟨rfl, hc1⟩
          rw [H1.out, errV_zero]
          go_wp2_with fail
          refine (size_any ⟨0, 0, s⟩ _ _ (hs.never hc1)).mono ?_
          rintro e w2 ⟨rfl, hc2⟩
          have hw := hc1.trans hc2
          go_wp2_with fail
          refine (cut_any s n _ _ (hs.never hw) hlen (by omega) (by omega)).mono ?_
          rintro e w3 ⟨r, rfl, hc3, hr⟩
          go_wp2_with fail
          go_ret2
          exact ⟨r, by rw [E.out]; rfl, hw.trans hc3, by unfold cutR; rw [if_pos E.out]; exact hr.sub (fun k hk h => Nat.lt_of_lt_of_le h hw.size)⟩
  · have E : Hid (cutFault s n = scriptFault s) := by unfold cutFault Hid; rw [if_pos h1]
    go_enter Tryd.func93, Tryd.ntmps93
    go_wp2_with fail
    refine (edit_check_any s _ _ hs).mono ?_
    rintro e w1 ⟨rfl, hc1⟩
    rw [errV_pos h1]
    go_wp2_with fail
    go_ret2
    exact ⟨.slice none 0 0, by rw [E.out, errV_pos h1]; rfl, hc1, by unfold cutR; rw [if_neg (by rw [E.out]; exact h1)]; exact rdv_nil _ _⟩

/-! ### turned -/
/-- a block of three cells, as it is -/
def Blk3 (w : World) (B : Nat) (t : TypeId) (x y z : Value) : Prop := w.heap[B]? = some (.cells #[x, y, z] t (0, 0))
theorem Blk3.cell {w : World} {B : Nat} {t : TypeId} {x y z : Value} (h : Blk3 w B t x y z) : w.cell? ⟨B, 0, none⟩ = some x ∧ w.cell? ⟨B, 1, none⟩ = some y ∧ w.cell? ⟨B, 2, none⟩ = some z := by
  unfold Blk3 at h
  simp [World.cell?, h]
theorem Blk3.free {w : World} {B : Nat} {t : TypeId} {x y z : Value} (h : Blk3 w B t x y z) (j : Nat) : w.frozen? ⟨B, j, none⟩ = false := by
  unfold Blk3 at h
  simp [World.frozen?, h]
theorem Blk3.lt {w : World} {B : Nat} {t : TypeId} {x y z : Value} (h : Blk3 w B t x y z) : B < w.heap.size := (Array.getElem?_eq_some_iff.1 h).1
theorem Blk3.keep {w w' : World} {B : Nat} {t : TypeId} {x y z : Value} {O : Nat → Prop} (h : Blk3 w B t x y z) (hc : Chg O w w') (hB : ¬ O B) : Blk3 w' B t x y z := by
  have := hc.block B h.lt hB
  unfold Blk3 at *
  rw [this]
  exact h
theorem Blk3.set2 {w : World} {B : Nat} {t : TypeId} {x y z : Value} (h : Blk3 w B t x y z) (u : Value) : Blk3 (w.setCell ⟨B, 2, none⟩ u) B t x y u := by
  unfold Blk3 at *
  simp [World.setCell, Array.getElem?_modify, h]
theorem Blk3.set0 {w : World} {B : Nat} {t : TypeId} {x y z : Value} (h : Blk3 w B t x y z) (u : Value) : Blk3 (w.setCell ⟨B, 0, none⟩ u) B t u y z := by
  unfold Blk3 at *
  simp [World.setCell, Array.getElem?_modify, h]
theorem Blk3.set1 {w : World} {B : Nat} {t : TypeId} {x y z : Value} (h : Blk3 w B t x y z) (u : Value) : Blk3 (w.setCell ⟨B, 1, none⟩ u) B t x u z := by
  unfold Blk3 at *
  simp [World.setCell, Array.getElem?_modify, h]
theorem own_isSlice {α : Type} [Dat α] {e : TypeId} {w : World} {O : Nat → Prop} {v : Value} {l : List α} (h : Own e w O v l) : ∃ a n c, v = .slice a n c := by
  obtain ⟨xs, hx, _⟩ := h
  rcases hx.2 with ⟨h, _⟩ | ⟨g, cap, cur, h, _⟩
  · exact ⟨_, _, _, h⟩
  · exact ⟨_, _, _, h⟩
theorem Blk3.new (w : World) (t : TypeId) (x y z : Value) : Blk3 (w.alloc (.cells #[x, y, z] t)) w.heap.size t x y z := heap_alloc_new _ _

theorem map_take {l : List Mark} {k : Nat} {x : Mark} (hx : l[k]? = some x) : (l.take (k + 1)).map turnMark = (l.take k).map turnMark ++ [turnMark x] := by
  rw [List.take_add_one, hx]; simp


set_option maxHeartbeats 800000 in
theorem turned_any (h : Hunk) (mv : Value) (w : World) (hm : Rdv w Never mv h.marks) (hl : h.marks.length ≤ 120) :
    Calls Tryd.prog 94 #[.agg #[.int .i64 h.old, .int .i64 h.new, mv]] w fun e w' => ∃ r, e = .returned (.agg #[.int .i64 h.new, .int .i64 h.old, r]) ∧ Chg Never w w' ∧ Rdv w' (Old w.heap.size) r (h.marks.map turnMark) := by
  obtain ⟨o, n, l⟩ := h
  simp only at hm hl ⊢
  obtain ⟨a, cap, rfl, h1, h2, h3⟩ := rdv_slice hm
  unfold maxLen at h2
  go_enter Tryd.func94, Tryd.ntmps94
  have hT : Chg Never w (((w.alloc (.cells #[.int .i64 o, .int .i64 n, .slice a l.length cap] 42)).alloc (.cells #[.int .i64 0, .int .i64 0, .slice none 0 0] 42)).alloc (.cells #[.int .i64 n, .int .i64 o, .slice none 0 0] 42)) := (((Chg.refl Never w).alloc _).alloc _).alloc _
  have hR : Blk3 (((w.alloc (.cells #[.int .i64 o, .int .i64 n, .slice a l.length cap] 42)).alloc (.cells #[.int .i64 0, .int .i64 0, .slice none 0 0] 42)).alloc (.cells #[.int .i64 n, .int .i64 o, .slice none 0 0] 42)) (w.heap.size + 1) 42 (.int .i64 0) (.int .i64 0) (.slice none 0 0) := by
    have := Blk3.new (w.alloc (.cells #[.int .i64 o, .int .i64 n, .slice a l.length cap] 42)) 42 (.int .i64 0) (.int .i64 0) (.slice none 0 0)
    rw [World.size_alloc] at this
    exact this.keep (O := Never) ((Chg.refl _ _).alloc _) (fun h => h)
  have hP : Blk3 (((w.alloc (.cells #[.int .i64 o, .int .i64 n, .slice a l.length cap] 42)).alloc (.cells #[.int .i64 0, .int .i64 0, .slice none 0 0] 42)).alloc (.cells #[.int .i64 n, .int .i64 o, .slice none 0 0] 42)) (w.heap.size + 1 + 1) 42 (.int .i64 n) (.int .i64 o) (.slice none 0 0) := by
    have := Blk3.new ((w.alloc (.cells #[.int .i64 o, .int .i64 n, .slice a l.length cap] 42)).alloc (.cells #[.int .i64 0, .int .i64 0, .slice none 0 0] 42)) 42 (.int .i64 n) (.int .i64 o) (.slice none 0 0)
    rw [World.size_alloc, World.size_alloc] at this
    exact this
  go_wp2_with fail
  go_loopw [14, 20, 23] (fun i _ _ wr => ∃ (k : Nat) (mv : Value), k ≤ l.length ∧ i = .int .i64 k ∧ Chg Never w wr ∧ Blk3 wr (w.heap.size + 1) 42 (.int .i64 0) (.int .i64 0) (.slice none 0 0) ∧ Blk3 wr (w.heap.size + 1 + 1) 42 (.int .i64 n) (.int .i64 o) mv ∧
      Own 80 wr (Old (w.heap.size + 3)) mv ((l.take k).map turnMark)) (fun i _ _ _ => l.length - (intOf i).toNat)
  case atStart => exact ⟨0, .slice none 0 0, Nat.zero_le _, rfl, hT, hR, hP, own_nil _ _ _⟩
  case round =>
    clear hT hR hP
    obtain ⟨k, mv, hk, rfl, hc, hR, hP, hown⟩ := hrel
    by_cases hlt : k < l.length
    · obtain ⟨x, hx⟩ : ∃ x, l[k]? = some x := ⟨l[k], by simp [hlt]⟩
      obtain ⟨b, off, rfl, _, _, c0, c1, s0, s1, hxs⟩ := elems_mark h3 hx
      have c0 := hc.cellNever c0
      have c1 := hc.cellNever c1
      have HM := Lib.hid (map_take hx)
      have hlen : ((l.take k).map turnMark).length ≤ 1000000000 := by rw [List.length_map, List.length_take]; omega
      have hO : ∀ j, Old (w.heap.size + 3) j → j < wr.heap.size := by
        intro j hj
        have := hP.lt
        unfold Old at hj
        omega
      clear hx h3 hm
      obtain ⟨sg, tx⟩ := x
      simp only at c0 c1 s0 s1 hxs
      obtain ⟨p0, p1, p2⟩ := hP.cell
      by_cases h45 : sg = 45
      · subst h45
        have hT : turnMark ⟨45, tx⟩ = ⟨43, tx⟩ := rfl
        have HT := Lib.hid hT
        clear hT
        have hA : Chg Never wr (wr.alloc (.cells #[.int .u8 43, .string tx] 80)) := ((Chg.refl Never wr).alloc _)
        have hown0 := hown.never hA
        have hP0 := hP.keep hA (fun h => h)
        have hR0 := hR.keep hA (fun h => h)
        have hO0 : ∀ j, Old (w.heap.size + 3) j → j < ((wr.alloc (.cells #[.int .u8 43, .string tx] 80))).heap.size := fun j hj => Nat.lt_of_lt_of_le (hO j hj) hA.size
        have hc0 := hc.trans hA
        clear hA hO
        obtain ⟨_, _, q2⟩ := hP0.cell
        go_wp2_with (at_builtin; refine wpList_push (by rfl) _ _ 40 (by rfl) elemOk_mark (O := Old (w.heap.size + 3)) (l := (l.take k).map turnMark) (y := ⟨43, tx⟩) (by rfl) (by rfl) (by simp) hown0 (rd_mark _ _ 43 tx (by first | assumption | decide) (by first | assumption | decide) hxs) hO0 hlen ?_; intro v' w5 hown2 hc2 hk2; obtain ⟨ad, nn, cc, rfl⟩ := own_slice hk2; have hP5 := hP0.keep hc2 (own_not hown0 (by omega)); have hR5 := hR0.keep hc2 (own_not hown0 (by omega)); obtain ⟨q3, q4, q5⟩ := hP5.cell; have q6 := hP5.free 2)
        have hc5 := own_step' hc0 (by omega) hown0 hc2
        have hS : Chg (fun j => j = w.heap.size + 1 + 1) w5 (w5.setCell ⟨w.heap.size + 1 + 1, 2, none⟩ (.slice (some ad) nn cc)) := (Chg.refl (fun j => j = w.heap.size + 1 + 1) w5).setCell (p := ⟨w.heap.size + 1 + 1, 2, none⟩) (.inr rfl) _
        have hown3 := hown2.keep hS (fun j _ h => by unfold Old; omega) (fun _ _ h => h)
        clear hown hown0 hc2 hown2
        go_roundw
        case rel => exact ⟨k + 1, .slice (some ad) nn cc, by omega, by go_num, hc5.setCell (.inl (by show w.heap.size ≤ w.heap.size + 1 + 1; omega)) _, hR5.keep hS (by omega), hP5.set2 _, by rw [HM.out, HT.out]; exact hown3⟩
        case measure => simp [intOf] <;> omega
      · by_cases h43 : sg = 43
        · subst h43
          have hT : turnMark ⟨43, tx⟩ = ⟨45, tx⟩ := rfl
          have HT := Lib.hid hT
          clear hT
          have hA : Chg Never wr (wr.alloc (.cells #[.int .u8 45, .string tx] 80)) := ((Chg.refl Never wr).alloc _)
          have hown0 := hown.never hA
          have hP0 := hP.keep hA (fun h => h)
          have hR0 := hR.keep hA (fun h => h)
          have hO0 : ∀ j, Old (w.heap.size + 3) j → j < ((wr.alloc (.cells #[.int .u8 45, .string tx] 80))).heap.size := fun j hj => Nat.lt_of_lt_of_le (hO j hj) hA.size
          have hc0 := hc.trans hA
          clear hA hO
          obtain ⟨_, _, q2⟩ := hP0.cell
          go_wp2_with (at_builtin; refine wpList_push (by rfl) _ _ 40 (by rfl) elemOk_mark (O := Old (w.heap.size + 3)) (l := (l.take k).map turnMark) (y := ⟨45, tx⟩) (by rfl) (by rfl) (by simp) hown0 (rd_mark _ _ 45 tx (by first | assumption | decide) (by first | assumption | decide) hxs) hO0 hlen ?_; intro v' w5 hown2 hc2 hk2; obtain ⟨ad, nn, cc, rfl⟩ := own_slice hk2; have hP5 := hP0.keep hc2 (own_not hown0 (by omega)); have hR5 := hR0.keep hc2 (own_not hown0 (by omega)); obtain ⟨q3, q4, q5⟩ := hP5.cell; have q6 := hP5.free 2)
          have hc5 := own_step' hc0 (by omega) hown0 hc2
          have hS : Chg (fun j => j = w.heap.size + 1 + 1) w5 (w5.setCell ⟨w.heap.size + 1 + 1, 2, none⟩ (.slice (some ad) nn cc)) := (Chg.refl (fun j => j = w.heap.size + 1 + 1) w5).setCell (p := ⟨w.heap.size + 1 + 1, 2, none⟩) (.inr rfl) _
          have hown3 := hown2.keep hS (fun j _ h => by unfold Old; omega) (fun _ _ h => h)
          clear hown hown0 hc2 hown2
          go_roundw
          case rel => exact ⟨k + 1, .slice (some ad) nn cc, by omega, by go_num, hc5.setCell (.inl (by show w.heap.size ≤ w.heap.size + 1 + 1; omega)) _, hR5.keep hS (by omega), hP5.set2 _, by rw [HM.out, HT.out]; exact hown3⟩
          case measure => simp [intOf] <;> omega
        · have hT : turnMark ⟨sg, tx⟩ = ⟨sg, tx⟩ := by simp [turnMark, h43, h45]
          have t1 : (sg == 45) = false := by simp [h45]
          have t2 : (sg == 43) = false := by simp [h43]
          clear h43 h45
          have HT := Lib.hid hT
          clear hT
          have hA : Chg Never wr (wr.alloc (.cells #[.int .u8 sg, .string tx] 80)) := ((Chg.refl Never wr).alloc _)
          have hown0 := hown.never hA
          have hP0 := hP.keep hA (fun h => h)
          have hR0 := hR.keep hA (fun h => h)
          have hO0 : ∀ j, Old (w.heap.size + 3) j → j < ((wr.alloc (.cells #[.int .u8 sg, .string tx] 80))).heap.size := fun j hj => Nat.lt_of_lt_of_le (hO j hj) hA.size
          have hc0 := hc.trans hA
          clear hA hO
          obtain ⟨_, _, q2⟩ := hP0.cell
          go_wp2_with (at_builtin; refine wpList_push (by rfl) _ _ 40 (by rfl) elemOk_mark (O := Old (w.heap.size + 3)) (l := (l.take k).map turnMark) (y := ⟨sg, tx⟩) (by rfl) (by rfl) (by simp) hown0 (rd_mark _ _ sg tx (by first | assumption | decide) (by first | assumption | decide) hxs) hO0 hlen ?_; intro v' w5 hown2 hc2 hk2; obtain ⟨ad, nn, cc, rfl⟩ := own_slice hk2; have hP5 := hP0.keep hc2 (own_not hown0 (by omega)); have hR5 := hR0.keep hc2 (own_not hown0 (by omega)); obtain ⟨q3, q4, q5⟩ := hP5.cell; have q6 := hP5.free 2)
          have hc5 := own_step' hc0 (by omega) hown0 hc2
          have hS : Chg (fun j => j = w.heap.size + 1 + 1) w5 (w5.setCell ⟨w.heap.size + 1 + 1, 2, none⟩ (.slice (some ad) nn cc)) := (Chg.refl (fun j => j = w.heap.size + 1 + 1) w5).setCell (p := ⟨w.heap.size + 1 + 1, 2, none⟩) (.inr rfl) _
          have hown3 := hown2.keep hS (fun j _ h => by unfold Old; omega) (fun _ _ h => h)
          clear hown hown0 hc2 hown2
          go_roundw
          case rel => exact ⟨k + 1, .slice (some ad) nn cc, by omega, by go_num, hc5.setCell (.inl (by show w.heap.size ≤ w.heap.size + 1 + 1; omega)) _, hR5.keep hS (by omega), hP5.set2 _, by rw [HM.out, HT.out]; exact hown3⟩
          case measure => simp [intOf] <;> omega
    · obtain rfl : k = l.length := by omega
      rw [List.take_length] at hown
      obtain ⟨p0, p1, p2⟩ := hP.cell
      obtain ⟨r0, r1, r2⟩ := hR.cell
      have rf := hR.free
      have pl := hR.lt
      obtain ⟨ra, rn, rc, rfl⟩ := own_isSlice hown
      obtain ⟨f0, f1, f2⟩ := (((hR.set0 (.int .i64 n)).set1 (.int .i64 o)).set2 (.slice ra rn rc)).cell
      have hS : Chg (fun j => j = w.heap.size + 1) wr (((wr.setCell ⟨w.heap.size + 1, 0, none⟩ (.int .i64 n)).setCell ⟨w.heap.size + 1, 1, none⟩ (.int .i64 o)).setCell ⟨w.heap.size + 1, 2, none⟩ (.slice ra rn rc)) :=
        (((Chg.refl (fun j => j = w.heap.size + 1) wr).setCell (p := ⟨w.heap.size + 1, 0, none⟩) (.inr rfl) _).setCell (p := ⟨w.heap.size + 1, 1, none⟩) (.inr rfl) _).setCell (p := ⟨w.heap.size + 1, 2, none⟩) (.inr rfl) _
      have hr := (hown.keep (O'' := Old w.heap.size) hS (fun j _ h => by unfold Old; omega) (fun j _ h => by unfold Old at *; omega)).rdv
      have hcF := (((hc.setCell (p := ⟨w.heap.size + 1, 0, none⟩) (.inl (by show w.heap.size ≤ w.heap.size + 1; omega)) (.int .i64 n)).setCell (p := ⟨w.heap.size + 1, 1, none⟩) (.inl (by show w.heap.size ≤ w.heap.size + 1; omega)) (.int .i64 o)).setCell (p := ⟨w.heap.size + 1, 2, none⟩) (.inl (by show w.heap.size ≤ w.heap.size + 1; omega)) (.slice ra rn rc))
      clear hS hown
      go_wp2_with fail
      exact bodyPost_ret (v := .agg #[.int .i64 n, .int .i64 o, .slice ra rn rc]) (by simp [results, Tryd.results94, go_sem, f0, f1, f2]) rfl ⟨_, rfl, hcF, hr⟩

def turnR (l : List Hunk) : List Hunk := if (hunksFault l).2 = 0 then turnHunks l else []
theorem turnHunks_take {l : List Hunk} {k : Nat} {x : Hunk} (hx : l[k]? = some x) : turnHunks (l.take (k + 1)) = turnHunks (l.take k) ++ [turnHunk x] := by
  rw [List.take_add_one, hx]; simp [turnHunks]
set_option maxHeartbeats 800000 in
theorem turn_any (l : List Hunk) (v : Value) (w : World) (h : Rdv w Never v l) :
    Calls Tryd.prog 71 #[v] w fun e w' => ∃ r, e = .returned (.tuple #[r, errV (hunksFault l).2]) ∧ Chg Never w w' ∧ Rdv w' (Old w.heap.size) r (turnR l) := by
  by_cases hz : (hunksFault l).2 = 0
  · have hlen := (hunksFault_zero hz).1
    have hok := hOk_mem _ _ _ (hunksFault_zero hz).2
    have HE : Hid (turnR l = turnHunks l) := if_pos hz
    obtain ⟨a, cap, rfl, h1, h2, h3⟩ := rdv_slice h
    unfold maxLen at h2
    go_enter Tryd.func71, Tryd.ntmps71
    go_wp2_with fail
    refine (hunk_check_any l _ _ h).mono ?_
    rintro e w1 ⟨rfl, hc1⟩
    rw [hz, errV_zero]
    have HZ := Lib.hid hz
    clear hz
    go_wp2_with fail
    go_loopw [6, 19] (fun o i wr => ∃ (k : Nat), k ≤ l.length ∧ i = .int .i64 k ∧ Chg Never w wr ∧ Own 42 wr (Old w.heap.size) o (turnHunks (l.take k))) (fun _ i _ => l.length - (intOf i).toNat)
    case atStart => exact ⟨0, Nat.zero_le _, rfl, hc1, own_nil _ _ _⟩
    case round =>
      clear hc1
      obtain ⟨k, hk, rfl, hc, hown⟩ := hrel
      by_cases hlt : k < l.length
      · obtain ⟨x, hx⟩ : ∃ x, l[k]? = some x := ⟨l[k], by simp [hlt]⟩
        obtain ⟨b, off, mv, rfl, _, _, c0, c1, c2, hmv⟩ := elems_hunk h3 hx
        have c0 := hc.cellNever c0
        have c1 := hc.cellNever c1
        have c2 := hc.cellNever c2
        have hmv := hmv.never hc
        obtain ⟨ma, mcap, rfl, _, _, _⟩ := rdv_slice hmv
        have HT := Lib.hid (turnHunks_take hx)
        have hml : x.marks.length ≤ 120 := scriptFault_len (hok x (List.mem_of_getElem? hx))
        have hle : (turnHunks (l.take k)).length ≤ 1000000000 := by unfold turnHunks; rw [List.length_map, List.length_take]; omega
        clear hx h3 h hok
        go_wp2_with fail
        refine (turned_any x _ _ (hmv.never ((Chg.refl _ _).alloc _)) hml).mono ?_
        rintro e w2 ⟨r, rfl, hc2, hr2⟩
        have hA := ((Chg.refl Never wr).alloc (.cells #[.int .i64 x.old, .int .i64 x.new, .slice ma x.marks.length mcap] 42)).trans hc2
        have hown2 := hown.never hA
        have hb := own_block_lt hown
        have hcw := hc.trans hA
        have hy : Dat.rd w2 (fun j => Old w.heap.size j ∨ _ = some j) [.int .i64 x.new, .int .i64 x.old, r] (turnHunk x) := ⟨r, rfl, hr2.sub (O' := fun j => Old w.heap.size j ∨ _ = some j) (fun j _ hj => by
          show j < (wr.alloc _).heap.size
          rw [World.size_alloc]
          rcases hj with hj | hj
          · have := hc.size; unfold Old at hj; omega
          · exact Nat.lt_succ_of_lt (hb j hj))⟩
        go_wp2_with (at_builtin; refine wpList_push (by rfl) _ _ 72 (by rfl) elemOk_hunk (O := Old w.heap.size) (l := turnHunks (l.take k)) (y := turnHunk x) (by rfl) (by rfl) (by simp) hown2 hy (old_lt hcw) hle ?_; intro v' w5 hown5 hc5 hk5)
        have hc6 := own_step hcw hown2 hc5
        clear hown2 hc5 hown hy
        go_roundw
        case rel => exact ⟨k + 1, by omega, by go_num, hc6, by rw [HT.out]; exact hown5⟩
        case measure => simp [intOf] <;> omega
      · go_wp2_with fail
        go_ret2
        obtain rfl : k = l.length := by omega
        rw [List.take_length] at hown
        exact ⟨_, by rw [HZ.out]; rfl, hc, by rw [HE.out]; exact hown.rdv⟩
  · have HE : Hid (turnR l = []) := if_neg hz
    go_enter Tryd.func71, Tryd.ntmps71
    go_wp2_with fail
    refine (hunk_check_any l _ _ h).mono ?_
    rintro e w1 ⟨rfl, hc1⟩
    rw [errV_pos hz]
    go_wp2_with fail
    go_ret2
    exact ⟨.slice none 0 0, by rw [errV_pos hz]; rfl, hc1, by rw [HE.out]; exact rdv_nil _ _⟩
end Go.Proofs.YtpoammapjmddfaaDoor
