/-
  PARTS: THE WALKS of patch.whole, shape, one, Check.; THE WALKS of patch.shape, one, Check.; PATCHES AS TEXTS, in plain Lean: the document's reading of a change's two lines is the program's; the loop's steps.; THE WALKS of git.headed and Print.; THE WALK of git.Print.; A SLICE OF A SLICE, as a run, at whatever element type (light: no function walked).; THE WALKS of match.cost and texts.; THE WALK of handstitchsame.Ints.; THE WALKS of match.check and of the document's SquareFault: squares of costs.; A MAP FROM NUMBERS TO NUMBERS that the call has made: what it holds, as a function.; BITS OF SMALL NUMBERS at int. No program in sight.
-/
import Derived.Test.YtgabchhplmncnaaDoorPackRs6
import Derived.Test.YtgabchhplmncnaaDoorPackRs4
import Derived.Test.YtgabchhplmncnaaDoorPackRs3
import Derived.BigQuiet
import Derived.Test.YtgabchhplmncnaaDoorPackRs5
import Derived.Deep.QuietTactic
import Derived.WalkSpells
import Derived.Deep.RegionHeld3
import Derived.Test.YtgabchhplmncnaaDoorPackRs1
import Derived.Maps.OwnOps
import Derived.Maps.Views
import Derived.Laws.Entries
namespace Go.Proofs.YtgabchhplmncnaaDoor
open Go.RowKit

theorem other_any (sg s : Int) (tx : ByteArray) (p : Addr) (w : World) (h : w.cell? p = some (.int .u8 s)) :
    Calls Tryd.prog 56 #[.agg #[.int .u8 sg, .string tx], .pointer (some p)] w fun e w' => e = .returned (.bool (sg != s)) ∧ Chg Never w w' := by
  have h := ((Chg.refl Never w).alloc (.cells #[.int .u8 sg, .string tx] 61)).cellNever h
  go_enter Tryd.func56, Tryd.ntmps56
  go_wp2_with fail
  go_ret
  exact ⟨rfl, (Chg.refl _ _).alloc _⟩
def allSign (l : List Mark) (s : Int) : Bool := l.all fun m => decide (m.sign = s)
theorem allSign_take {l : List Mark} {k : Nat} {x : Mark} {s : Int} (hx : l[k]? = some x) (h : allSign (l.take k) s = true) : allSign (l.take (k + 1)) s = decide (x.sign = s) := by
  rw [List.take_add_one, hx]
  unfold allSign at *
  rw [List.all_append, h]
  simp
theorem allSign_bad {l : List Mark} {k : Nat} {x : Mark} {s : Int} (hx : l[k]? = some x) (h : x.sign ≠ s) : allSign l s = false := by
  unfold allSign
  rw [List.all_eq_false]
  exact ⟨x, List.mem_of_getElem? hx, by simp [h]⟩
def OthPost (l : List Mark) (s : Int) (w : World) (e : Ending) (w' : World) : Prop := ∃ n : Int, e = .returned (.int .i64 n) ∧ -1 ≤ n ∧ decide (0 ≤ n) = !(allSign l s) ∧ Chg Never w w'
set_option maxHeartbeats 1000000 in
set_option maxRecDepth 100000 in
theorem index_other (l : List Mark) (s : Int) (v : Value) (p : Addr) (w : World) (h : Rdv w Never v l) (hp : w.cell? p = some (.int .u8 s)) :
    Calls Tryd.prog 61 #[v, .func (.func 56) #[] #[.pointer (some p)]] w (OthPost l s w) := by
  obtain ⟨a, cap, rfl, h1, h2, h3⟩ := rdv_slice h
  unfold maxLen at h2
  go_enter Tryd.func61, Tryd.ntmps61
  go_wp2_with fail
  go_loopw [8] (fun i wr => ∃ k : Nat, k ≤ l.length ∧ i = .int .i64 k ∧ Hid (allSign (l.take k) s = true) ∧ Chg Never w wr) (fun i _ => l.length - (intOf i).toNat)
  case atStart => exact ⟨0, Nat.zero_le _, rfl, rfl, Chg.refl _ _⟩
  case round =>
    obtain ⟨k, hk, rfl, hf, hc⟩ := hrel
    by_cases hlt : k < l.length
    · obtain ⟨x, hx⟩ : ∃ x, l[k]? = some x := ⟨l[k], by simp [hlt]⟩
      obtain ⟨b, off, rfl, _, _, c0, c1, s0, s1, hxs⟩ := elems_mark h3 hx
      have c0 := hc.cellNever c0
      have c1 := hc.cellNever c1
      have HT := Lib.hid (allSign_take hx hf.out)
      have HB : ∀ _ : x.sign ≠ s, Hid (allSign l s = false) := fun e => allSign_bad hx e
      clear hx h3 h
      obtain ⟨sg, tx⟩ := x
      simp only at c0 c1 s0 s1 hxs HB HT
      by_cases h32 : sg = s
      · have t1 : (sg != s) = false := by simp [h32]
        go_wp2_with (go_at_call 56; refine (other_any _ s _ _ _ (hc.cellNever hp)).mono ?_; rintro e w2 ⟨rfl, hc2⟩)
        go_roundw
        case rel => exact ⟨k + 1, by omega, by go_num, by rw [Hid, HT.out]; exact decide_eq_true h32, hc.trans hc2⟩
        case measure => simp [intOf] <;> omega
      · have t1 : (sg != s) = true := by simp [h32]
        have E := HB h32
        clear HB HT
        go_wp2_with (go_at_call 56; refine (other_any _ s _ _ _ (hc.cellNever hp)).mono ?_; rintro e w2 ⟨rfl, hc2⟩)
        go_ret
        exact ⟨k, rfl, by omega, by rw [E.out]; simp, hc.trans hc2⟩
    · go_wp2_with fail
      go_ret
      have E : allSign l s = true := by have := hf.out; rwa [List.take_of_length_le (by omega)] at this
      exact ⟨-1, rfl, by omega, by rw [E]; rfl, hc⟩
theorem contains_other (l : List Mark) (s : Int) (v : Value) (p : Addr) (w : World) (h : Rdv w Never v l) (hp : w.cell? p = some (.int .u8 s)) :
    Calls Tryd.prog 54 #[v, .func (.func 56) #[] #[.pointer (some p)]] w fun e w' => e = .returned (.bool (!(allSign l s))) ∧ Chg Never w w' := by
  go_enter Tryd.func54, Tryd.ntmps54
  go_wp2_with fail
  refine (index_other l s _ _ _ h hp).mono ?_
  rintro e w1 ⟨n, rfl, hn, hd, hc⟩
  have HD := Lib.hid hd
  clear hd
  go_wp2_with fail
  go_ret
  exact ⟨by rw [← HD.out]; rfl, hc⟩

/-- a change and a sign in boxes -/
theorem box_change (w : World) (T U : TypeId) (k s : Int) (p : ByteArray) (v : Value) (W : World) (hW : W = (w.alloc (.cells #[.int .i64 k, .string p, v] T)).alloc (.cells #[.int .u8 s] U)) :
    Chg Never w W ∧ W.cell? ⟨w.heap.size, 0, none⟩ = some (.int .i64 k) ∧ W.cell? ⟨w.heap.size, 1, none⟩ = some (.string p) ∧ W.cell? ⟨w.heap.size, 2, none⟩ = some v ∧ W.cell? ⟨w.heap.size + 1, 0, none⟩ = some (.int .u8 s) := by
  subst hW
  have hA : Chg Never w (w.alloc (.cells #[.int .i64 k, .string p, v] T)) := (Chg.refl Never w).alloc _
  have hB := (Chg.refl Never (w.alloc (.cells #[.int .i64 k, .string p, v] T))).alloc (.cells #[.int .u8 s] U)
  have n := heap_alloc_new w (.cells #[.int .i64 k, .string p, v] T)
  have n2 := heap_alloc_new (w.alloc (.cells #[.int .i64 k, .string p, v] T)) (.cells #[.int .u8 s] U)
  rw [World.size_alloc] at n2
  refine ⟨hA.trans hB, hB.cellNever ?_, hB.cellNever ?_, hB.cellNever ?_, ?_⟩
  · simp only [World.cell?]; rw [n]; rfl
  · simp only [World.cell?]; rw [n]; rfl
  · simp only [World.cell?]; rw [n]; rfl
  · simp only [World.cell?]; rw [n2]; rfl
theorem box1_change (w : World) (T : TypeId) (k : Int) (p : ByteArray) (v : Value) (W : World) (hW : W = w.alloc (.cells #[.int .i64 k, .string p, v] T)) :
    Chg Never w W ∧ W.cell? ⟨w.heap.size, 0, none⟩ = some (.int .i64 k) ∧ W.cell? ⟨w.heap.size, 1, none⟩ = some (.string p) ∧ W.cell? ⟨w.heap.size, 2, none⟩ = some v := by
  subst hW
  have n := heap_alloc_new w (.cells #[.int .i64 k, .string p, v] T)
  refine ⟨(Chg.refl Never w).alloc _, ?_, ?_, ?_⟩ <;> (simp only [World.cell?]; rw [n]; rfl)
theorem wholeB_one (h : Hunk) (s : Int) : wholeB [h] s = (decide (h.old = 0) && decide (h.new = 0) && allSign h.marks s) := rfl
theorem wholeB_many {l : List Hunk} {s : Int} (h : 2 ≤ l.length) : wholeB l s = false := by
  match l, h with
  | _ :: _ :: _, _ => rfl
set_option maxHeartbeats 2000000 in
set_option maxRecDepth 100000 in
theorem whole_go (wh : Int) (pa : ByteArray) (hs : List Hunk) (s : Int) (v : Value) (w : World) (h : Rdv w Never v hs) :
    Calls Tryd.prog 46 #[.agg #[.int .i64 wh, .string pa, v], .int .u8 s] w fun e w' => e = .returned (.bool (wholeB hs s)) ∧ Chg Never w w' := by
  obtain ⟨a, cap, rfl, h1, h2, h3⟩ := rdv_slice h
  obtain ⟨hA, b0, b1, b2, bs⟩ := box_change w 25 5 wh s pa (.slice a hs.length cap) _ rfl
  match hs, h, h1, h2, h3, hA, b0, b1, b2, bs with
  | [], h, h1, h2, h3, hA, b0, b1, b2, bs =>
    have e0 : wholeB [] s = true := rfl
    rw [e0]
    go_enter Tryd.func46, Tryd.ntmps46
    go_wp2_with fail
    go_ret
    exact ⟨rfl, hA⟩
  | [x], h, h1, h2, h3, hA, b0, b1, b2, bs =>
    obtain ⟨b, off, mv, rfl, _, _, c0, c1, c2, hmv⟩ := elems_hunk h3 (i := 0) rfl
    simp only [Nat.zero_mul, Nat.add_zero] at c0 c1 c2
    have c0 := hA.cellNever c0
    have c1 := hA.cellNever c1
    have c2 := hA.cellNever c2
    have hmv := hmv.never hA
    rw [wholeB_one]
    clear h3
    by_cases o : x.old = 0
    · by_cases n : x.new = 0
      · rw [decide_eq_true o, decide_eq_true n]
        have o0 : (x.old == 0) = true := by simp [o]
        have n0 : (x.new == 0) = true := by simp [n]
        clear o n
        go_enter Tryd.func46, Tryd.ntmps46
        go_wp2_with fail
        refine (contains_other x.marks s _ _ _ hmv bs).mono ?_
        rintro e w2 ⟨rfl, hc2⟩
        go_wp2_with fail
        go_ret
        exact ⟨by simp, hA.trans hc2⟩
      · rw [decide_eq_true o, decide_eq_false n]
        have o0 : (x.old == 0) = true := by simp [o]
        have n0 : (x.new == 0) = false := by simp [n]
        clear o n
        go_enter Tryd.func46, Tryd.ntmps46
        go_wp2_with fail
        go_ret
        exact ⟨rfl, hA⟩
    · rw [decide_eq_false o]
      have o0 : (x.old == 0) = false := by simp [o]
      clear o
      go_enter Tryd.func46, Tryd.ntmps46
      go_wp2_with fail
      go_ret
      exact ⟨rfl, hA⟩
  | x :: y :: r, h, h1, h2, h3, hA, b0, b1, b2, bs =>
    rw [wholeB_many (by simp)]
    generalize hL : x :: y :: r = L at b0 b1 b2 bs h h1 h2 hA ⊢
    have hge : 2 ≤ L.length := by rw [← hL]; simp
    have t0 : ((L.length : Int) == 0) = false := beq_eq_false_iff_ne.2 (by omega)
    have t1 : ((L.length : Int) == 1) = false := beq_eq_false_iff_ne.2 (by omega)
    clear hL h3
    go_enter Tryd.func46, Tryd.ntmps46
    go_wp2_with fail
    go_ret
    exact ⟨rfl, hA⟩
theorem whole_any (c : Change) (s : Int) (v : Value) (w : World) (h : Rdv w Never v c.hunks) :
    Calls Tryd.prog 46 #[.agg #[.int .i64 c.what, .string c.path, v], .int .u8 s] w fun e w' => e = .returned (.bool (wholeB c.hunks s)) ∧ Chg Never w w' := whole_go _ _ _ _ _ _ h
end Go.Proofs.YtgabchhplmncnaaDoor
namespace Go.Proofs.YtgabchhplmncnaaDoor
open Go.RowKit

set_option maxHeartbeats 1000000 in
set_option maxRecDepth 100000 in
theorem shape_any (c : Change) (v : Value) (w : World) (h : Rdv w Never v c.hunks) :
    Calls Tryd.prog 37 #[.agg #[.int .i64 c.what, .string c.path, v]] w fun e w' => e = .returned (.bool (shapeB c)) ∧ Chg Never w w' := by
  obtain ⟨a, cap, rfl, h1, h2, _⟩ := rdv_slice h
  obtain ⟨hA, b0, b1, b2⟩ := box1_change w 25 c.what c.path (.slice a c.hunks.length cap) _ rfl
  by_cases k2 : c.what = 2
  · have E : Hid (shapeB c = wholeB c.hunks 43) := if_pos k2
    have t2 : (c.what == 2) = true := by simp [k2]
    clear k2
    go_enter Tryd.func37, Tryd.ntmps37
    go_wp2_with fail
    refine (whole_any c 43 _ _ (h.never hA)).mono ?_
    rintro e w2 ⟨rfl, hc2⟩
    go_wp2_with fail
    go_ret
    exact ⟨by rw [E.out]; rfl, hA.trans hc2⟩
  · have t2 : (c.what == 2) = false := by simp [k2]
    by_cases k3 : c.what = 3
    · have E : Hid (shapeB c = wholeB c.hunks 45) := by unfold Hid shapeB; rw [if_neg k2, if_pos k3]
      have t3 : (c.what == 3) = true := by simp [k3]
      clear k2 k3
      go_enter Tryd.func37, Tryd.ntmps37
      go_wp2_with fail
      refine (whole_any c 45 _ _ (h.never hA)).mono ?_
      rintro e w2 ⟨rfl, hc2⟩
      go_wp2_with fail
      go_ret
      exact ⟨by rw [E.out]; rfl, hA.trans hc2⟩
    · have E : Hid (shapeB c = decide (0 < c.hunks.length)) := by
        unfold Hid shapeB
        rw [if_neg k2, if_neg k3]
        cases c.hunks <;> simp
      have t3 : (c.what == 3) = false := by simp [k3]
      clear k2 k3
      go_enter Tryd.func37, Tryd.ntmps37
      go_wp2_with fail
      go_ret
      exact ⟨by rw [E.out]; rfl, hA⟩
theorem cf_rng {c : Change} (h : c.what < 1 ∨ 3 < c.what) : changeFault c = 1 := if_pos h
theorem cf_path {c : Change} (h : ¬ (c.what < 1 ∨ 3 < c.what)) (g : pathFault c.path ≠ 0) : changeFault c = pathFault c.path := by unfold changeFault; rw [if_neg h, if_pos g]
theorem cf_hunks {c : Change} (h : ¬ (c.what < 1 ∨ 3 < c.what)) (g : pathFault c.path = 0) (k : (hunksFault c.hunks).2 ≠ 0) : changeFault c = (hunksFault c.hunks).2 := by unfold changeFault; rw [if_neg h, if_neg (by rw [g]; decide), if_pos k]
theorem cf_shape {c : Change} (h : ¬ (c.what < 1 ∨ 3 < c.what)) (g : pathFault c.path = 0) (k : (hunksFault c.hunks).2 = 0) (s : shapeB c = false) : changeFault c = 2 := by unfold changeFault; rw [if_neg h, if_neg (by rw [g]; decide), if_neg (by rw [k]; decide), if_neg (by rw [s]; decide)]
theorem cf_ok {c : Change} (h : ¬ (c.what < 1 ∨ 3 < c.what)) (g : pathFault c.path = 0) (k : (hunksFault c.hunks).2 = 0) (s : shapeB c = true) : changeFault c = 0 := by unfold changeFault; rw [if_neg h, if_neg (by rw [g]; decide), if_neg (by rw [k]; decide), if_pos s]
set_option maxHeartbeats 2000000 in
set_option maxRecDepth 100000 in
theorem patch_one_any (c : Change) (v : Value) (w : World) (h : Rdv w Never v c.hunks) (m : Int) (hm : w.cell? ⟨0, 0, none⟩ = some (.int .i64 m)) :
    Calls Tryd.prog 27 #[.agg #[.int .i64 c.what, .string c.path, v]] w fun e w' => e = .returned (errV (changeFault c)) ∧ Chg Never w w' := by
  obtain ⟨a, cap, rfl, h1, h2, _⟩ := rdv_slice h
  obtain ⟨hA, b0, b1, b2⟩ := box1_change w 25 c.what c.path (.slice a c.hunks.length cap) _ rfl
  by_cases r : c.what < 1 ∨ 3 < c.what
  · rw [cf_rng r]
    rcases r with r | r
    · go_enter Tryd.func27, Tryd.ntmps27
      go_wp2_with fail
      go_ret
      exact ⟨rfl, hA⟩
    · have r0 : ¬ c.what < 1 := by omega
      go_enter Tryd.func27, Tryd.ntmps27
      go_wp2_with fail
      go_ret
      exact ⟨rfl, hA⟩
  · have r0 : ¬ c.what < 1 := by omega
    have r1 : ¬ 3 < c.what := by omega
    by_cases z : pathFault c.path = 0
    · have Z := Lib.hid z
      by_cases y : (hunksFault c.hunks).2 = 0
      · have Y := Lib.hid y
        cases s : shapeB c with
        | true =>
          have E := Lib.hid (cf_ok r z y s)
          have S := Lib.hid s
          clear r z y s
          go_enter Tryd.func27, Tryd.ntmps27
          go_wp2_with fail
          generalize w.alloc (.cells #[.int .i64 c.what, .string c.path, .slice a c.hunks.length cap] 25) = wA at hA b0 b1 b2 ⊢
          refine (line_path_any c.path _ m (hA.cellNever hm)).mono ?_
          rintro e w2 ⟨rfl, hc2⟩
          have hw := hA.trans hc2
          have b0 := hc2.cellNever b0
          have b1 := hc2.cellNever b1
          have b2 := hc2.cellNever b2
          clear hc2
          rw [Z.out, errV_zero]
          go_wp2_with fail
          refine (hunk_check_any c.hunks _ _ (h.never hw)).mono ?_
          rintro e w3 ⟨rfl, hc3⟩
          have hw := hw.trans hc3
          have b0 := hc3.cellNever b0
          have b1 := hc3.cellNever b1
          have b2 := hc3.cellNever b2
          clear hc3
          rw [Y.out, errV_zero]
          go_wp2_with fail
          refine (shape_any c _ _ (h.never hw)).mono ?_
          rintro e w4 ⟨rfl, hc4⟩
          rw [S.out]
          clear b0 b1 b2
          go_wp2_with fail
          go_ret
          exact ⟨by rw [E.out]; rfl, hw.trans hc4⟩
        | false =>
          have E := Lib.hid (cf_shape r z y s)
          have S := Lib.hid s
          clear r z y s
          go_enter Tryd.func27, Tryd.ntmps27
          go_wp2_with fail
          generalize w.alloc (.cells #[.int .i64 c.what, .string c.path, .slice a c.hunks.length cap] 25) = wA at hA b0 b1 b2 ⊢
          refine (line_path_any c.path _ m (hA.cellNever hm)).mono ?_
          rintro e w2 ⟨rfl, hc2⟩
          have hw := hA.trans hc2
          have b0 := hc2.cellNever b0
          have b1 := hc2.cellNever b1
          have b2 := hc2.cellNever b2
          clear hc2
          rw [Z.out, errV_zero]
          go_wp2_with fail
          refine (hunk_check_any c.hunks _ _ (h.never hw)).mono ?_
          rintro e w3 ⟨rfl, hc3⟩
          have hw := hw.trans hc3
          have b0 := hc3.cellNever b0
          have b1 := hc3.cellNever b1
          have b2 := hc3.cellNever b2
          clear hc3
          rw [Y.out, errV_zero]
          go_wp2_with fail
          refine (shape_any c _ _ (h.never hw)).mono ?_
          rintro e w4 ⟨rfl, hc4⟩
          rw [S.out]
          clear b0 b1 b2
          go_wp2_with fail
          go_ret
          exact ⟨by rw [E.out]; rfl, hw.trans hc4⟩
      · have E := Lib.hid (cf_hunks r z y)
        have Y := Lib.hid y
        clear r z y
        go_enter Tryd.func27, Tryd.ntmps27
        go_wp2_with fail
        generalize w.alloc (.cells #[.int .i64 c.what, .string c.path, .slice a c.hunks.length cap] 25) = wA at hA b0 b1 b2 ⊢
        refine (line_path_any c.path _ m (hA.cellNever hm)).mono ?_
        rintro e w2 ⟨rfl, hc2⟩
        have hw := hA.trans hc2
        have b0 := hc2.cellNever b0
        have b1 := hc2.cellNever b1
        have b2 := hc2.cellNever b2
        clear hc2
        rw [Z.out, errV_zero]
        go_wp2_with fail
        refine (hunk_check_any c.hunks _ _ (h.never hw)).mono ?_
        rintro e w3 ⟨rfl, hc3⟩
        have hw := hw.trans hc3
        have b0 := hc3.cellNever b0
        have b1 := hc3.cellNever b1
        have b2 := hc3.cellNever b2
        clear hc3
        rw [errV_pos Y.out]
        clear b0 b1 b2
        go_wp2_with fail
        go_ret
        exact ⟨by rw [E.out, errV_pos Y.out]; rfl, hw⟩
    · have E := Lib.hid (cf_path r z)
      have Z := Lib.hid z
      clear r z
      go_enter Tryd.func27, Tryd.ntmps27
      go_wp2_with fail
      generalize w.alloc (.cells #[.int .i64 c.what, .string c.path, .slice a c.hunks.length cap] 25) = wA at hA b0 b1 b2 ⊢
      refine (line_path_any c.path _ m (hA.cellNever hm)).mono ?_
      rintro e w2 ⟨rfl, hc2⟩
      have hw := hA.trans hc2
      have b0 := hc2.cellNever b0
      have b1 := hc2.cellNever b1
      have b2 := hc2.cellNever b2
      clear hc2
      rw [errV_pos Z.out]
      clear b0 b1 b2
      go_wp2_with fail
      go_ret
      exact ⟨by rw [E.out, errV_pos Z.out]; rfl, hw⟩
/-! ### Check -/
def prevC (t : List Change) (k : Nat) : Option ByteArray := if k = 0 then none else (t[k - 1]?).map (·.path)
theorem prevC_succ {t : List Change} {k : Nat} {f : Change} (h : t[k]? = some f) : prevC t (k + 1) = some f.path := by unfold prevC; simp [h]
theorem patchGo_next {t : List Change} {k : Nat} {f : Change} {prev : Option ByteArray} (hd : t.drop k = f :: t.drop (k + 1)) (h1 : changeFault f = 0) (h2 : prev.any (fun p => leqB f.path p) = false) : patchGo k prev (t.drop k) = patchGo (k + 1) (some f.path) (t.drop (k + 1)) := by
  rw [hd, patchGo, if_neg (by simp [h1]), if_neg (by rw [h2]; decide)]
theorem patchGo_bad {t : List Change} {k : Nat} {f : Change} {prev : Option ByteArray} (hd : t.drop k = f :: t.drop (k + 1)) (h1 : changeFault f ≠ 0) : patchGo k prev (t.drop k) = (k, changeFault f) := by
  rw [hd, patchGo, if_pos h1]
theorem patchGo_order {t : List Change} {k : Nat} {f : Change} {p : ByteArray} (hd : t.drop k = f :: t.drop (k + 1)) (h1 : changeFault f = 0) (h2 : leqB f.path p = true) : patchGo k (some p) (t.drop k) = (k, 2) := by
  rw [hd, patchGo, if_neg (by simp [h1]), if_pos (by simpa using h2)]
theorem patchGo_end {t : List Change} {prev : Option ByteArray} : patchGo t.length prev (t.drop t.length) = (0, 0) := by rw [List.drop_length]; rfl
set_option maxHeartbeats 2000000 in
set_option maxRecDepth 100000 in
theorem patch_check_any (t : List Change) (v : Value) (w : World) (h : Rdv w Never v t) (m : Int) (hm : w.cell? ⟨0, 0, none⟩ = some (.int .i64 m)) :
    Calls Tryd.prog 21 #[v] w fun e w' => e = .returned (.tuple #[.int .i64 (patchFault t).1, errV (patchFault t).2]) ∧ Chg Never w w' := by
  obtain ⟨a, cap, rfl, h1, h2, h3⟩ := rdv_slice h
  unfold maxLen at h2
  by_cases h8 : 16 < t.length
  · have HF : Hid (patchFault t = (0, 3)) := if_pos h8
    go_enter Tryd.func21, Tryd.ntmps21
    go_wp2_with fail
    go_ret2
    exact ⟨by rw [HF.out]; rfl, Chg.refl _ _⟩
  · have HF : Hid (patchFault t = patchGo 0 (prevC t 0) (t.drop 0)) := if_neg h8
    go_enter Tryd.func21, Tryd.ntmps21
    go_wp2_with fail
    go_loopw [13] (fun i wr => ∃ k : Nat, k ≤ t.length ∧ i = .int .i64 k ∧ Chg Never w wr ∧ Hid (patchFault t = patchGo k (prevC t k) (t.drop k))) (fun i _ => t.length - (intOf i).toNat)
    case atStart => exact ⟨0, Nat.zero_le _, rfl, Chg.refl _ _, HF.out⟩
    case round =>
      clear HF
      obtain ⟨k, hk, rfl, hc, hG⟩ := hrel
      by_cases hlt : k < t.length
      · obtain ⟨x, hx⟩ : ∃ x, t[k]? = some x := ⟨t[k], by simp [hlt]⟩
        obtain ⟨b, off, lv, rfl, _, _, c0, c1, c2, hps, hlv⟩ := elems_change h3 hx
        obtain ⟨la, lcap, rfl, _, _, _⟩ := rdv_slice hlv
        have c0 := hc.cellNever c0
        have c1 := hc.cellNever c1
        have c2 := hc.cellNever c2
        have hlv := hlv.never hc
        have HD := Lib.hid (drop_eq hx)
        have HPV := Lib.hid (prevC_succ hx)
        have HX := Lib.hid hx
        obtain ⟨hA, b0, b1, b2⟩ := box1_change wr 25 x.what x.path (.slice la x.hunks.length lcap) _ rfl
        clear hx
        by_cases p0 : changeFault x = 0
        · have HFF := Lib.hid p0
          clear p0
          go_wp2_with fail
          generalize wr.alloc (.cells #[.int .i64 x.what, .string x.path, .slice la x.hunks.length lcap] 25) = w3 at hA b0 b1 b2 ⊢
          have hc3 := hc.trans hA
          refine (patch_one_any x _ _ (hlv.never hA) m (hc3.cellNever hm)).mono ?_
          rintro e w4 ⟨rfl, hc4⟩
          have b1 := hc4.cellNever b1
          have hcD := hc3.trans hc4
          clear hc4 hc3 hA c0 c1 c2 b0 b2
          rw [HFF.out, errV_zero]
          rcases Nat.eq_zero_or_pos k with h0 | h0
          · subst h0
            have HNX : Hid (patchFault t = patchGo (0 + 1) (prevC t (0 + 1)) (t.drop (0 + 1))) := by rw [Hid, HPV.out, hG.out]; exact patchGo_next HD.out HFF.out rfl
            clear hG
            go_wp2_with fail
            go_quiet (fail)
            go_wp2_with fail
            go_roundw
            case rel => exact ⟨0 + 1, by omega, by go_num, hcD.drewN _, HNX⟩
            case measure => simp [intOf] <;> omega
          · obtain ⟨k', rfl⟩ : ∃ k', k = k' + 1 := ⟨k - 1, by omega⟩
            obtain ⟨y, hy⟩ : ∃ y, t[k']? = some y := ⟨t[k']'(by omega), by simp [show k' < t.length by omega]⟩
            obtain ⟨b', off', lv', hbo, _, _, _, y0, _, _, _⟩ := elems_change h3 hy
            simp only [Option.some.injEq, Addr.mk.injEq, and_true] at hbo
            obtain ⟨rfl, rfl⟩ := hbo
            have y0 := hcD.cellNever y0
            have HPY : Hid (prevC t (k' + 1) = some y.path) := prevC_succ hy
            have z1 : (k' : Int) + 1 - 1 = k' := by omega
            have z2 : decide ((0 : Int) < (k' : Int) + 1) = true := decide_eq_true (by omega)
            clear hy
            rcases less_tri x.path y.path with g | g | g
            · have HE : Hid (patchFault t = (k' + 1, 2)) := by rw [Hid, hG.out, HPY.out]; exact patchGo_order HD.out HFF.out (leqB_true.2 (less_asymm g))
              have a1 : Op.bytesLess x.path.toList y.path.toList = true := g
              clear g hG
              go_wp2_with fail
              go_quiet (fail)
              go_wp2_with fail; go_ret2; exact ⟨by rw [HE.out]; rfl, hcD.drewN _⟩
            · have HE : Hid (patchFault t = (k' + 1, 2)) := by rw [Hid, hG.out, HPY.out]; exact patchGo_order HD.out HFF.out (leqB_true.2 (by rw [g]; exact less_irrefl _))
              have a1 : Op.bytesLess x.path.toList y.path.toList = false := by rw [g]; exact bl_irrefl _
              have a2 : (x.path.toList == y.path.toList) = true := by rw [g]; exact beq_self_eq_true _
              clear g hG
              go_wp2_with fail
              go_quiet (fail)
              go_wp2_with fail; go_ret2; exact ⟨by rw [HE.out]; rfl, hcD.drewN _⟩
            · have HNX : Hid (patchFault t = patchGo (k' + 1 + 1) (prevC t (k' + 1 + 1)) (t.drop (k' + 1 + 1))) := by
                rw [Hid, HPV.out, hG.out]
                refine patchGo_next HD.out HFF.out ?_
                rw [HPY.out, Option.any_some, Bool.eq_false_iff]
                intro e
                rw [leqB_true.1 e] at g; cases g
              have a1 : Op.bytesLess x.path.toList y.path.toList = false := less_asymm g
              have a2 := str_beq_false (less_ne g).symm
              clear g hG
              go_wp2_with fail
              go_quiet (fail)
              go_wp2_with fail
              go_roundw
              case rel => exact ⟨k' + 1 + 1, by omega, by go_num, hcD.drewN _, HNX⟩
              case measure => simp [intOf] <;> omega
        · have HE : Hid (patchFault t = (k, changeFault x)) := by rw [Hid, hG.out, patchGo_bad HD.out p0]
          have P0 := Lib.hid p0
          clear p0 hG
          go_wp2_with fail
          generalize wr.alloc (.cells #[.int .i64 x.what, .string x.path, .slice la x.hunks.length lcap] 25) = w3 at hA b0 b1 b2 ⊢
          have hc3 := hc.trans hA
          refine (patch_one_any x _ _ (hlv.never hA) m (hc3.cellNever hm)).mono ?_
          rintro e w4 ⟨rfl, hc4⟩
          have b1 := hc4.cellNever b1
          have hcD := hc3.trans hc4
          clear hc4 hc3 hA c0 c1 c2 b0 b2
          rw [errV_pos P0.out]
          go_wp2_with fail
          go_ret2
          exact ⟨by rw [HE.out, errV_pos P0.out]; rfl, hcD⟩
      · obtain rfl : k = t.length := by omega
        have e := hG.out
        rw [patchGo_end] at e
        have HE := Lib.hid e
        clear hG e
        go_wp2_with fail
        go_ret2
        exact ⟨by rw [HE.out]; rfl, hc⟩
end Go.Proofs.YtgabchhplmncnaaDoor
namespace Go.Proofs.YtgabchhplmncnaaDoor

def mmA : List UInt8 := [45, 45, 45, 32, 97, 47]
def ppB : List UInt8 := [43, 43, 43, 32, 98, 47]
def mmN : List UInt8 := [45, 45, 45, 32, 47, 100, 101, 118, 47, 110, 117, 108, 108]
def ppN : List UInt8 := [43, 43, 43, 32, 47, 100, 101, 118, 47, 110, 117, 108, 108]
theorem pre_pre (p q a : List UInt8) : dropPre (p ++ q) a = match dropPre p a with
    | none => none
    | some r => dropPre q r := by
  cases h : dropPre p a with
  | none =>
    simp only
    unfold dropPre at h ⊢
    rw [if_neg]
    intro e
    rw [if_pos] at h
    · cases h
    · obtain ⟨t, ht⟩ := List.isPrefixOf_iff_prefix.1 e
      exact List.isPrefixOf_iff_prefix.2 ⟨q ++ t, by rw [← ht]; simp⟩
  | some r =>
    have e := pre_some h
    subst e
    simp only
    unfold dropPre
    by_cases hq : q.isPrefixOf r = true
    · obtain ⟨t, ht⟩ := List.isPrefixOf_iff_prefix.1 hq
      rw [if_pos hq, if_pos (List.isPrefixOf_iff_prefix.2 ⟨t, by rw [← ht]; simp⟩), List.length_append, ← List.drop_drop, List.drop_left]
    · rw [if_neg hq, if_neg]
      intro e
      obtain ⟨t, ht⟩ := List.isPrefixOf_iff_prefix.1 e
      rw [List.append_assoc] at ht
      exact hq (List.isPrefixOf_iff_prefix.2 ⟨t, List.append_cancel_left ht⟩)
theorem pre_eq {p a x : List UInt8} (h : dropPre p a = some x) (n : List UInt8) : x = n ↔ a = p ++ n := by
  rw [pre_some h]
  exact ⟨fun e => by rw [e], fun e => List.append_cancel_left e⟩
theorem headed_ref (a b : List UInt8) : headedL a b =
    if mmA.isPrefixOf a = true ∧ ppB.isPrefixOf b = true ∧ a.drop 6 = b.drop 6 then some (1, a.drop 6)
    else if a = mmN ∧ ppB.isPrefixOf b = true then some (2, b.drop 6)
    else if mmA.isPrefixOf a = true ∧ b = ppN then some (3, a.drop 6) else none := by
  have hA : dropPre mmA a = match dropPre mmL a with
    | none => none
    | some r => dropPre [97, 47] r := pre_pre mmL [97, 47] a
  have hB : dropPre ppB b = match dropPre ppL b with
    | none => none
    | some r => dropPre [98, 47] r := pre_pre ppL [98, 47] b
  have iA : ∀ f, dropPre mmA a = some f → mmA.isPrefixOf a = true ∧ a.drop 6 = f := fun f e => by
    unfold dropPre at e
    by_cases q : mmA.isPrefixOf a = true
    · rw [if_pos q] at e
      injection e with e
      exact ⟨q, e⟩
    · rw [if_neg q] at e; cases e
  have nA : dropPre mmA a = none → ¬ mmA.isPrefixOf a = true := fun e q => by
    unfold dropPre at e
    rw [if_pos q] at e; cases e
  have iB : ∀ f, dropPre ppB b = some f → ppB.isPrefixOf b = true ∧ b.drop 6 = f := fun f e => by
    unfold dropPre at e
    by_cases q : ppB.isPrefixOf b = true
    · rw [if_pos q] at e
      injection e with e
      exact ⟨q, e⟩
    · rw [if_neg q] at e; cases e
  have nB : dropPre ppB b = none → ¬ ppB.isPrefixOf b = true := fun e q => by
    unfold dropPre at e
    rw [if_pos q] at e; cases e
  have mA : a = mmN → ¬ mmA.isPrefixOf a = true := fun e => by rw [e]; decide
  have mB : b = ppN → ¬ ppB.isPrefixOf b = true := fun e => by rw [e]; decide
  have hmN : mmN = mmL ++ noneL := rfl
  have hpN : ppN = ppL ++ noneL := rfl
  unfold headedL
  cases ha : dropPre mmL a with
  | none =>
    rw [ha] at hA
    have q1 := nA hA
    have q2 : a ≠ mmN := fun e => by rw [e, hmN, pre_app] at ha; cases ha
    rw [if_neg (fun q => q1 q.1), if_neg (fun q => q2 q.1), if_neg (fun q => q1 q.1)]
  | some x =>
    rw [ha] at hA
    simp only at hA
    cases hb : dropPre ppL b with
    | none =>
      rw [hb] at hB
      have q1 := nB hB
      have q2 : b ≠ ppN := fun e => by rw [e, hpN, pre_app] at hb; cases hb
      rw [if_neg (fun q => q1 q.2.1), if_neg (fun q => q1 q.2), if_neg (fun q => q2 q.2)]
    | some y =>
      rw [hb] at hB
      simp only at hB ⊢
      unfold headedR
      cases hf : dropPre [97, 47] x with
      | none =>
        rw [hf] at hA
        have q1 := nA hA
        rw [if_neg (fun q => q1 q.1), if_neg (c := _ ∧ b = ppN) (fun q => q1 q.1)]
        cases ht : dropPre [98, 47] y with
        | none =>
          rw [ht] at hB
          rw [if_neg (fun q => nB hB q.2)]
        | some t =>
          rw [ht] at hB
          obtain ⟨q2, q3⟩ := iB _ hB
          simp only
          by_cases e : x = noneL
          · rw [if_pos e, if_pos ⟨(pre_eq ha noneL).1 e, q2⟩, q3]
          · rw [if_neg e, if_neg (fun q => e ((pre_eq ha noneL).2 q.1))]
      | some f =>
        rw [hf] at hA
        obtain ⟨q1, q4⟩ := iA _ hA
        have q5 : ¬ (a = mmN ∧ ppB.isPrefixOf b = true) := fun q => mA q.1 q1
        cases ht : dropPre [98, 47] y with
        | none =>
          rw [ht] at hB
          have q2 := nB hB
          simp only
          have q6 : ¬ (mmA.isPrefixOf a = true ∧ ppB.isPrefixOf b = true ∧ a.drop 6 = b.drop 6) := fun q => q2 q.2.1
          by_cases e : y = noneL
          · rw [if_pos e, if_neg q6, if_neg q5, if_pos ⟨q1, (pre_eq hb noneL).1 e⟩, q4]
          · have q7 : ¬ (mmA.isPrefixOf a = true ∧ b = ppN) := fun q => e ((pre_eq hb noneL).2 q.2)
            rw [if_neg e, if_neg q6, if_neg q5, if_neg q7]
        | some t =>
          rw [ht] at hB
          obtain ⟨q2, q3⟩ := iB _ hB
          simp only
          rw [q3, q4]
          by_cases e : f = t
          · rw [if_pos e, if_pos ⟨q1, q2, e⟩]
          · rw [if_neg e, if_neg (fun q => e q.2.2), if_neg q5, if_neg (fun q => mB q.2 q2)]
/-! ### the loop -/
/-- what is read from a place on, behind what has been read -/
def ChgsInv (l : List (List UInt8)) (at_ : Nat) (L : List Change) : Prop := ∃ k, (l.drop at_).length ≤ k ∧ (changesG k (l.drop at_)).map (L ++ ·) = changesG l.length l
theorem cinv_start (l : List (List UInt8)) : ChgsInv l 0 [] := ⟨l.length, by simp, by simp⟩
theorem cinv_end {l : List (List UInt8)} {i : Nat} {L : List Change} (h : ChgsInv l i L) (hi : l.length ≤ i) : changesG l.length l = some L := by
  obtain ⟨k, _, h⟩ := h
  rw [List.drop_of_length_le hi, changesG] at h
  rw [← h]; simp
theorem cinv_one {l : List (List UInt8)} {i : Nat} {L : List Change} (h : ChgsInv l i L) (hi : i + 1 = l.length) : changesG l.length l = none := by
  obtain ⟨k, hk, h⟩ := h
  have hx : (l.drop i).length = 1 := by rw [List.length_drop]; omega
  obtain ⟨x, hx⟩ := List.length_eq_one_iff.1 hx
  rw [hx] at h hk
  obtain ⟨k, rfl⟩ : ∃ j, k = j + 1 := ⟨k - 1, by simp at hk; omega⟩
  rw [← h, changesG]; rfl
theorem cinv_head {l : List (List UInt8)} {i : Nat} {L : List Change} (h : ChgsInv l i L) {a b : List UInt8} {r : List (List UInt8)} (hd : l.drop i = a :: b :: r) (hh : headedL a b = none) : changesG l.length l = none := by
  obtain ⟨k, hk, h⟩ := h
  rw [hd] at h hk
  obtain ⟨k, rfl⟩ : ∃ j, k = j + 1 := ⟨k - 1, by simp at hk; omega⟩
  rw [← h, changesG, hh]; rfl
theorem cinv_take {l : List (List UInt8)} {i : Nat} {L : List Change} (h : ChgsInv l i L) {a b : List UInt8} {r : List (List UInt8)} (hd : l.drop i = a :: b :: r) {w : Int} {p : List UInt8} (hh : headedL a b = some (w, p)) (ht : takeU r [] 0 0 = none) : changesG l.length l = none := by
  obtain ⟨k, hk, h⟩ := h
  rw [hd] at h hk
  obtain ⟨k, rfl⟩ : ∃ j, k = j + 1 := ⟨k - 1, by simp at hk; omega⟩
  rw [← h, changesG, hh]
  simp only
  rw [ht]; rfl
theorem cinv_step {l : List (List UInt8)} {i j : Nat} {L : List Change} (h : ChgsInv l i L) {a b : List UInt8} {r : List (List UInt8)} (hd : l.drop i = a :: b :: r) {w : Int} {p : List UInt8} (hh : headedL a b = some (w, p)) {hs : List Hunk} (ht : takeU r [] 0 0 = some (hs, l.drop j)) (hj : i + 2 ≤ j) : ChgsInv l j (L ++ [⟨w, toB p, hs⟩]) := by
  obtain ⟨k, hk, h⟩ := h
  have hl : (l.drop i).length = r.length + 2 := by rw [hd]; rfl
  rw [hd] at h hk
  obtain ⟨k, rfl⟩ : ∃ j, k = j + 1 := ⟨k - 1, by simp at hk; omega⟩
  refine ⟨k, ?_, ?_⟩
  · rw [List.length_drop] at hl ⊢
    simp at hk
    omega
  · rw [← h, changesG, hh]
    simp only
    rw [ht]
    simp only
    cases changesG k (l.drop j) with
    | none => rfl
    | some q => simp
theorem parseG_none {s : List UInt8} (h : changesG (parts 10 s).dropLast.length (parts 10 s).dropLast = none) : parseG s = ([], 5) := by
  unfold parseG
  by_cases hl : 400000 < s.length
  · rw [if_pos hl]
  · rw [if_neg hl, h]
theorem parseG_some {s : List UInt8} {p : List Change} (hl : s.length ≤ 400000) (h : changesG (parts 10 s).dropLast.length (parts 10 s).dropLast = some p) (hx : (parts 10 s).getLast? = some []) : parseG s = if (patchFault p).2 ≠ 0 then ([], (patchFault p).2) else (p, 0) := by
  unfold parseG
  rw [if_neg (by omega), h]
  simp only
  rw [if_neg (by simpa using hx)]
theorem parseG_last {s : List UInt8} (hx : (parts 10 s).getLast? ≠ some []) : parseG s = ([], 5) := by
  unfold parseG
  by_cases hl : 400000 < s.length
  · rw [if_pos hl]
  · rw [if_neg hl]
    cases changesG (parts 10 s).dropLast.length (parts 10 s).dropLast with
    | none => rfl
    | some p => simp only; rw [if_pos hx]
end Go.Proofs.YtgabchhplmncnaaDoor
namespace Go.Proofs.YtgabchhplmncnaaDoor
open Go.RowKit

/-- two lines, as the program reads them -/
theorem headed_tests (a b : List UInt8) : ∃ (p1 p2 p3 p4 : Bool) (a1 b1 f t : List UInt8), Lib.hasPrefix a mmL = p1 ∧ Lib.trimPrefix a mmL = a1 ∧ Lib.hasPrefix b ppL = p2 ∧ Lib.trimPrefix b ppL = b1 ∧
    Lib.hasPrefix a1 [97, 47] = p3 ∧ Lib.trimPrefix a1 [97, 47] = f ∧ Lib.hasPrefix b1 [98, 47] = p4 ∧ Lib.trimPrefix b1 [98, 47] = t ∧
    (p3 = true → a1 ≠ noneL) ∧ (p4 = true → b1 ≠ noneL) ∧ f.length ≤ a.length ∧ t.length ≤ b.length ∧
    headedL a b = if p1 = false ∨ p2 = false then none else if p3 = true ∧ p4 = true ∧ f = t then some (1, f) else if a1 = noneL ∧ p4 = true then some (2, t) else if p3 = true ∧ b1 = noneL then some (3, f) else none := by
  have tl : ∀ x p : List UInt8, (Lib.trimPrefix x p).length ≤ x.length := fun x p => by
    unfold Lib.trimPrefix; split
    · rw [List.length_drop]; omega
    · exact Nat.le_refl _
  have hn : ∀ (x : List UInt8), Lib.hasPrefix x [97, 47] = true → x ≠ noneL := fun x h e => by rw [e] at h; exact absurd h (by decide)
  have hm : ∀ (x : List UInt8), Lib.hasPrefix x [98, 47] = true → x ≠ noneL := fun x h e => by rw [e] at h; exact absurd h (by decide)
  refine ⟨_, _, _, _, _, _, _, _, rfl, rfl, rfl, rfl, rfl, rfl, rfl, rfl, hn _, hm _, Nat.le_trans (tl _ _) (tl _ _), Nat.le_trans (tl _ _) (tl _ _), ?_⟩
  unfold headedL
  rcases lib_pre a mmL with ⟨h1, h2, h3⟩ | ⟨x, h1, h2, h3⟩
  · rw [h1, h2, if_pos (.inl rfl)]
  · rcases lib_pre b ppL with ⟨g1, g2, g3⟩ | ⟨y, g1, g2, g3⟩
    · rw [h1, g1, g2, if_pos (.inr rfl)]
    · rw [h1, h2, h3, g1, g2, g3, if_neg (by simp)]
      simp only
      unfold headedR
      rcases lib_pre x [97, 47] with ⟨k1, k2, k3⟩ | ⟨f, k1, k2, k3⟩
      · rcases lib_pre y [98, 47] with ⟨j1, j2, j3⟩ | ⟨t, j1, j2, j3⟩
        · rw [k1, j1, k2, j2]; simp
        · rw [k1, j1, k2, j2, j3]; simp
      · have q := hn x k2
        rcases lib_pre y [98, 47] with ⟨j1, j2, j3⟩ | ⟨t, j1, j2, j3⟩
        · rw [k1, j1, k2, j2, k3]; simp
        · have q2 := hm y j2
          rw [k1, j1, k2, j2, k3, j3]; simp [q, q2]
def HeadPost (a b : List UInt8) (w : World) (e : Ending) (w' : World) : Prop :=
  Chg Never w w' ∧ match headedL a b with
  | none => e = .returned (.tuple #[.agg #[.int .i64 0, .string ⟨#[]⟩, .slice none 0 0], .bool false])
  | some (k, p) => e = .returned (.tuple #[.agg #[.int .i64 k, .string (toB p), .slice none 0 0], .bool true])
theorem headPost_no {a b : List UInt8} {w w' : World} {e : Ending} (h : headedL a b = none) (hc : Chg Never w w') (he : e = .returned (.tuple #[.agg #[.int .i64 0, .string ⟨#[]⟩, .slice none 0 0], .bool false])) : HeadPost a b w e w' := ⟨hc, by rw [h]; exact he⟩
theorem headPost_yes {a b p : List UInt8} {k : Int} {w w' : World} {e : Ending} (h : headedL a b = some (k, p)) (hc : Chg Never w w') (he : e = .returned (.tuple #[.agg #[.int .i64 k, .string (toB p), .slice none 0 0], .bool true])) : HeadPost a b w e w' := ⟨hc, by rw [h]; exact he⟩
theorem str_eq_iff (x y : List UInt8) : ((toB x).toList == (toB y).toList) = decide (x = y) := by
  rw [Lib.toList_data, Lib.toList_data, toB_data, toB_data]
  by_cases h : x = y <;> simp [h]
theorem str_eq_lit (x y : List UInt8) : ((toB x).toList == y) = decide (x = y) := by
  rw [Lib.toList_data, toB_data]
  by_cases h : x = y <;> simp [h]

end Go.Proofs.YtgabchhplmncnaaDoor
namespace Go.Proofs.YtgabchhplmncnaaDoor
open Go.RowKit

def gitR (p : List Change) : ByteArray := if (patchFault p).2 = 0 then toB (textG p) else ByteArray.empty
theorem textG_take {p : List Change} {k : Nat} {x : Change} (hx : p[k]? = some x) : textG (p.take (k + 1)) = textG (p.take k) ++ (mmL ++ fromL x.what x.path.data.toList ++ [10] ++ (ppL ++ toL x.what x.path.data.toList ++ [10]) ++ textU x.hunks) := by
  unfold textG linesG textU
  rw [List.take_add_one, hx, Option.toList_some, List.flatMap_append, textL_app]
  congr 1
  simp only [List.flatMap_cons, List.flatMap_nil, List.append_nil]
  show textL ((mmL ++ fromL x.what x.path.data.toList) :: (ppL ++ toL x.what x.path.data.toList) :: linesU x.hunks) = _
  simp [textL]
theorem textG_mono {p : List Change} {k : Nat} : (textG (p.take k)).length ≤ (textG p).length := by
  conv => rhs; rw [← List.take_append_drop k p]
  unfold textG linesG
  rw [List.flatMap_append, textL_app, List.length_append]
  omega
/-- a change's two lines, as the walk writes them -/
theorem two_lines (f t : List UInt8) : toB mmL ++ toB f ++ toB [10, 43, 43, 43, 32] ++ toB t ++ toB [10] = toB (mmL ++ f ++ [10] ++ (ppL ++ t ++ [10])) := by
  apply ByteArray.ext
  apply Array.toList_inj.1
  simp only [bytes_append, toB_data]
  unfold ppL
  simp
theorem patch_each {p : List Change} (e : (patchFault p).2 = 0) : p.length ≤ 16 ∧ ∀ c ∈ p, changeFault c = 0 := by
  unfold patchFault at e
  by_cases h : 16 < p.length
  · rw [if_pos h] at e; cases e
  · rw [if_neg h] at e
    exact ⟨by omega, (patchGo_zero p 0 none e).1⟩

theorem gp_str (w : Int) (path F T : ByteArray) (hF : F = toB (fromL w path.data.toList)) (hT : T = toB (toL w path.data.toList)) :
    (⟨#[45, 45, 45, 32]⟩ : ByteArray) ++ F ++ ⟨#[10, 43, 43, 43, 32]⟩ ++ T ++ ⟨#[10]⟩ = toB (mmL ++ fromL w path.data.toList ++ [10] ++ (ppL ++ toL w path.data.toList ++ [10])) := by
  subst hF hT
  exact two_lines _ _
theorem gp_pre (a b : UInt8) (path : ByteArray) : (⟨#[a, b]⟩ : ByteArray) ++ path = toB ([a, b] ++ path.data.toList) := by
  apply ByteArray.ext
  apply Array.toList_inj.1
  rw [bytes_append, toB_data]
set_option maxHeartbeats 2000000 in
set_option maxRecDepth 100000 in
theorem gitprint_any (p : List Change) (v : Value) (w : World) (h : Rdv w Never v p) (m : Int) (hm : w.cell? ⟨0, 0, none⟩ = some (.int .i64 m)) :
    Calls Tryd.prog 14 #[v] w fun e w' => e = .returned (.tuple #[.string (gitR p), errV (patchFault p).2]) ∧ Chg Never w w' := by
  by_cases hz : (patchFault p).2 = 0
  · obtain ⟨p16, pall⟩ := patch_each hz
    have hTL := (changes_ok p pall).2
    have HALL := Lib.hid pall
    have HZ := Lib.hid hz
    have HR : Hid (gitR p = ⟨(textG p).toArray⟩) := by unfold Hid gitR; rw [if_pos hz]; rfl
    have hv := h
    obtain ⟨a, cap, rfl, h1, h2, -⟩ := rdv_slice h
    unfold maxLen at h2
    clear hz pall h
    go_enter Tryd.func14, Tryd.ntmps14
    go_wp2_with fail
    refine (patch_check_any p _ _ hv m hm).mono ?_
    rintro e w1 ⟨rfl, hc1⟩
    rw [HZ.out, errV_zero]
    generalize (patchFault p).1 = at0
    go_wp2_with fail
    have hv1 : Rdv w1 (From w1.heap.size) (.slice a p.length cap) p := hv.keep hc1 (fun _ _ h => h.elim) (fun k hk h => by unfold From at h; have := hc1.size; omega)
    obtain ⟨a', cap', hq, -, -, h3⟩ := rdv_slice hv1
    injection hq with hq1 _ hq2
    subst hq1 hq2
    go_loopw [21] (fun i wr => ∃ k : Nat, k ≤ p.length ∧ i = .int .i64 k ∧ IsB w1.heap.size w1.heap.size (Lib.byteCells (textG (p.take k))) wr ∧ Below w1.heap.size w1 wr) (fun i _ => p.length - (intOf i).toNat)
    case atStart => exact ⟨0, Nat.zero_le _, rfl, Lib.IsBuilderF.of (Lib.fresh_isBuilder _ _ w1), (Below.refl _ w1).alloc (Nat.le_refl _) _⟩
    case round =>
      obtain ⟨k, hk, rfl, hI, hb⟩ := hrel
      rename World => wr
      have hbs := hb.size
      by_cases hlt : k < p.length
      · obtain ⟨x, hx⟩ : ∃ x, p[k]? = some x := ⟨p[k], by simp [hlt]⟩
        obtain ⟨b', off, mv, rfl, hnb, -, c0, c1, c2, hxp, hmv⟩ := elems_change h3 hx
        have hcb := chg_below hb
        have c0 := hcb.cell c0 hnb
        have c1 := hcb.cell c1 hnb
        have c2 := hcb.cell c2 hnb
        have hmr : Rdv wr (From w1.heap.size) mv x.hunks := hmv.keep hcb (fun _ _ h => h) (fun _ _ h => h)
        obtain ⟨ma, mc, rfl, -, -, -⟩ := rdv_slice hmv
        obtain ⟨x1, x2, x3⟩ := change_ok (HALL.out x (List.mem_of_getElem? hx))
        obtain ⟨xl, -⟩ := path_fine x2
        have X3 := Lib.hid x3
        obtain ⟨ff1, -, ff2, -⟩ := from_fine x.what (path_fine x2)
        have HT := Lib.hid (textG_take hx)
        have hTk := @textG_mono p k
        have hTk1 := @textG_mono p (k + 1)
        have hA : Chg Never wr (wr.alloc (.cells #[.int .i64 x.what, .string x.path, .slice ma x.hunks.length mc] 25)) := (Chg.refl Never wr).alloc _
        have hbox := Blk3.new wr 25 (.int .i64 x.what) (.string x.path) (.slice ma x.hunks.length mc)
        have hbne : wr.heap.size ≠ w1.heap.size := by
          have : w1.heap.size < wr.heap.size := hI.elim (fun q => q.lt) (fun q => q.lt)
          omega
        obtain ⟨g0, g1, g2⟩ := hbox.cell
        have hIA := bld_keep hI hA
        have hmA := hmr.never hA
        have hbA := hb.trans (hA.never.mono hbs)
        have hpz : x.path.size ≤ 20 := by rw [Lib.size_eq]; exact xl
        have n1 : ¬ (9223372036854775807 < 2 + x.path.size) := by omega
        clear hx h3 hI hmr hmv x2 x3 xl
        go_wp2_with fail
        clear c0 c1 c2
        generalize wr.alloc (.cells #[.int .i64 x.what, .string x.path, .slice ma x.hunks.length mc] 25) = wA at hA hbox g0 g1 g2 hIA hmA hbA ⊢
        go_quiet (fail)
        have hcd : Chg Never wA (wA.drewN nq) := (Chg.refl Never wA).drewN nq
        have hbox2 := hbox.keep hcd (fun h => h)
        have hI2 := bld_keep hIA hcd
        have hm2 := hmA.never hcd
        have hb2 := hbA.trans (hcd.never.mono (Nat.le_trans hbs hA.size))
        generalize wA.drewN nq = w2 at hbox2 hI2 hm2 hb2 ⊢
        obtain ⟨g0, g1, g2⟩ := hbox2.cell
        clear hcd hbox hIA hmA hbA hA
        have hbs' : w1.heap.size ≤ w1.heap.size := Nat.le_refl _
        rcases x1 with x1 | x1 | x1
        · have q2 : (x.what == 2) = false := by rw [x1]; rfl
          have q3 : (x.what == 3) = false := by rw [x1]; rfl
          have XW := Lib.hid x1
          have HS : Hid ((⟨#[45, 45, 45, 32]⟩ : ByteArray) ++ ((⟨#[97, 47]⟩ : ByteArray) ++ x.path) ++ ⟨#[10, 43, 43, 43, 32]⟩ ++ ((⟨#[98, 47]⟩ : ByteArray) ++ x.path) ++ ⟨#[10]⟩ = toB (mmL ++ fromL x.what x.path.data.toList ++ [10] ++ (ppL ++ toL x.what x.path.data.toList ++ [10]))) := gp_str _ _ _ _ (by (rw [XW.out]; exact gp_pre 97 47 x.path)) (by (rw [XW.out]; exact gp_pre 98 47 x.path))
          have hLl : (mmL ++ fromL x.what x.path.data.toList ++ [10] ++ (ppL ++ toL x.what x.path.data.toList ++ [10])).length ≤ 60 := by
            simp only [List.length_append, List.length_cons, List.length_nil] at ff1 ff2 ⊢
            omega
          have hFz : ((⟨#[97, 47]⟩ : ByteArray) ++ x.path : ByteArray).size ≤ 22 := by (rw [ByteArray.size_append]; show 2 + x.path.size ≤ 22; omega)
          have hTz : ((⟨#[98, 47]⟩ : ByteArray) ++ x.path : ByteArray).size ≤ 22 := by (rw [ByteArray.size_append]; show 2 + x.path.size ≤ 22; omega)
          clear x1
          go_wp2_with fail
          clear g0 g1 g2
          have hbl : (Lib.byteCells (textG (p.take k))).length ≤ 181440 := by rw [Lib.byteCells_length]; omega
          refine (bldk_string w1.heap.size w1.heap.size _ _ _ hI2 (by rw [HS.out, toB_size']; omega) (Nat.le_trans hbs' hb2.size)).mono ?_
          rintro e w4 ⟨rfl, hI4, b4, k4⟩
          rw [HS.out, cells_toB, ← Lib.byteCells_append] at hI4
          have hc4 := chg_below b4
          have hm4 : Rdv w4 (From w1.heap.size) (.slice ma x.hunks.length mc) x.hunks := hm2.keep hc4 (fun _ _ h => h) (fun _ _ h => h)
          obtain ⟨-, -, g2⟩ := (k4.blk3 hbox2 hbne (by decide)).cell
          have hb4 := hb2.trans b4
          clear hm2 hI2 k4 hbox2 HS hc4
          go_wp2_with fail
          clear g2
          refine (write_any w1.heap.size w1.heap.size _ x.hunks _ _ hm4 (.inr hI4) X3.out (by rw [Lib.byteCells_length, List.length_append]; rw [Lib.byteCells_length] at hbl; omega) (Nat.le_trans hbs' hb4.size)).mono ?_
          rintro e w5 ⟨rfl, hI5, b5⟩
          rw [← Lib.byteCells_append, List.append_assoc, ← HT.out] at hI5
          go_wp2_with fail
          go_roundw
          case rel => exact ⟨k + 1, by omega, by go_num, hI5, hb4.trans b5⟩
          case measure => simp [intOf]; omega
        · have q2 : (x.what == 2) = true := by rw [x1]; rfl
          have q3 : (x.what == 3) = false := by rw [x1]; rfl
          have XW := Lib.hid x1
          have HS : Hid ((⟨#[45, 45, 45, 32]⟩ : ByteArray) ++ ((⟨#[47, 100, 101, 118, 47, 110, 117, 108, 108]⟩ : ByteArray)) ++ ⟨#[10, 43, 43, 43, 32]⟩ ++ ((⟨#[98, 47]⟩ : ByteArray) ++ x.path) ++ ⟨#[10]⟩ = toB (mmL ++ fromL x.what x.path.data.toList ++ [10] ++ (ppL ++ toL x.what x.path.data.toList ++ [10]))) := gp_str _ _ _ _ (by (rw [XW.out]; rfl)) (by (rw [XW.out]; exact gp_pre 98 47 x.path))
          have hLl : (mmL ++ fromL x.what x.path.data.toList ++ [10] ++ (ppL ++ toL x.what x.path.data.toList ++ [10])).length ≤ 60 := by
            simp only [List.length_append, List.length_cons, List.length_nil] at ff1 ff2 ⊢
            omega
          have hFz : ((⟨#[47, 100, 101, 118, 47, 110, 117, 108, 108]⟩ : ByteArray) : ByteArray).size ≤ 22 := by decide
          have hTz : ((⟨#[98, 47]⟩ : ByteArray) ++ x.path : ByteArray).size ≤ 22 := by (rw [ByteArray.size_append]; show 2 + x.path.size ≤ 22; omega)
          clear x1
          go_wp2_with fail
          clear g0 g1 g2
          have hbl : (Lib.byteCells (textG (p.take k))).length ≤ 181440 := by rw [Lib.byteCells_length]; omega
          refine (bldk_string w1.heap.size w1.heap.size _ _ _ hI2 (by rw [HS.out, toB_size']; omega) (Nat.le_trans hbs' hb2.size)).mono ?_
          rintro e w4 ⟨rfl, hI4, b4, k4⟩
          rw [HS.out, cells_toB, ← Lib.byteCells_append] at hI4
          have hc4 := chg_below b4
          have hm4 : Rdv w4 (From w1.heap.size) (.slice ma x.hunks.length mc) x.hunks := hm2.keep hc4 (fun _ _ h => h) (fun _ _ h => h)
          obtain ⟨-, -, g2⟩ := (k4.blk3 hbox2 hbne (by decide)).cell
          have hb4 := hb2.trans b4
          clear hm2 hI2 k4 hbox2 HS hc4
          go_wp2_with fail
          clear g2
          refine (write_any w1.heap.size w1.heap.size _ x.hunks _ _ hm4 (.inr hI4) X3.out (by rw [Lib.byteCells_length, List.length_append]; rw [Lib.byteCells_length] at hbl; omega) (Nat.le_trans hbs' hb4.size)).mono ?_
          rintro e w5 ⟨rfl, hI5, b5⟩
          rw [← Lib.byteCells_append, List.append_assoc, ← HT.out] at hI5
          go_wp2_with fail
          go_roundw
          case rel => exact ⟨k + 1, by omega, by go_num, hI5, hb4.trans b5⟩
          case measure => simp [intOf]; omega
        · have q2 : (x.what == 2) = false := by rw [x1]; rfl
          have q3 : (x.what == 3) = true := by rw [x1]; rfl
          have XW := Lib.hid x1
          have HS : Hid ((⟨#[45, 45, 45, 32]⟩ : ByteArray) ++ ((⟨#[97, 47]⟩ : ByteArray) ++ x.path) ++ ⟨#[10, 43, 43, 43, 32]⟩ ++ ((⟨#[47, 100, 101, 118, 47, 110, 117, 108, 108]⟩ : ByteArray)) ++ ⟨#[10]⟩ = toB (mmL ++ fromL x.what x.path.data.toList ++ [10] ++ (ppL ++ toL x.what x.path.data.toList ++ [10]))) := gp_str _ _ _ _ (by (rw [XW.out]; exact gp_pre 97 47 x.path)) (by (rw [XW.out]; rfl))
          have hLl : (mmL ++ fromL x.what x.path.data.toList ++ [10] ++ (ppL ++ toL x.what x.path.data.toList ++ [10])).length ≤ 60 := by
            simp only [List.length_append, List.length_cons, List.length_nil] at ff1 ff2 ⊢
            omega
          have hFz : ((⟨#[97, 47]⟩ : ByteArray) ++ x.path : ByteArray).size ≤ 22 := by (rw [ByteArray.size_append]; show 2 + x.path.size ≤ 22; omega)
          have hTz : ((⟨#[47, 100, 101, 118, 47, 110, 117, 108, 108]⟩ : ByteArray) : ByteArray).size ≤ 22 := by decide
          clear x1
          go_wp2_with fail
          clear g0 g1 g2
          have hbl : (Lib.byteCells (textG (p.take k))).length ≤ 181440 := by rw [Lib.byteCells_length]; omega
          refine (bldk_string w1.heap.size w1.heap.size _ _ _ hI2 (by rw [HS.out, toB_size']; omega) (Nat.le_trans hbs' hb2.size)).mono ?_
          rintro e w4 ⟨rfl, hI4, b4, k4⟩
          rw [HS.out, cells_toB, ← Lib.byteCells_append] at hI4
          have hc4 := chg_below b4
          have hm4 : Rdv w4 (From w1.heap.size) (.slice ma x.hunks.length mc) x.hunks := hm2.keep hc4 (fun _ _ h => h) (fun _ _ h => h)
          obtain ⟨-, -, g2⟩ := (k4.blk3 hbox2 hbne (by decide)).cell
          have hb4 := hb2.trans b4
          clear hm2 hI2 k4 hbox2 HS hc4
          go_wp2_with fail
          clear g2
          refine (write_any w1.heap.size w1.heap.size _ x.hunks _ _ hm4 (.inr hI4) X3.out (by rw [Lib.byteCells_length, List.length_append]; rw [Lib.byteCells_length] at hbl; omega) (Nat.le_trans hbs' hb4.size)).mono ?_
          rintro e w5 ⟨rfl, hI5, b5⟩
          rw [← Lib.byteCells_append, List.append_assoc, ← HT.out] at hI5
          go_wp2_with fail
          go_roundw
          case rel => exact ⟨k + 1, by omega, by go_num, hI5, hb4.trans b5⟩
          case measure => simp [intOf]; omega
      · rw [List.take_of_length_le (by omega)] at hI
        go_wp2_with fail
        refine (Tryd.Builder_String_any_k w1.heap.size w1.heap.size (textG p) _ hI hbs).mono ?_
        rintro e w4 ⟨rfl, _, b4, _⟩
        go_wp2_with fail
        go_ret2
        exact ⟨by rw [HR.out, HZ.out]; rfl, hc1.trans (Chg.of_below (hb.trans b4))⟩
  · have HR : Hid (gitR p = ByteArray.empty) := if_neg hz
    have HZ := Lib.hid hz
    obtain ⟨a, cap, rfl, -, -, -⟩ := rdv_slice h
    go_enter Tryd.func14, Tryd.ntmps14
    go_wp2_with fail
    refine (patch_check_any p _ _ h m hm).mono ?_
    rintro e w1 ⟨rfl, hc1⟩
    rw [errV_pos hz]
    generalize (patchFault p).1 = at0
    clear hz
    go_wp2_with fail
    go_ret2
    exact ⟨by rw [HR.out, errV_pos HZ.out]; rfl, hc1⟩
end Go.Proofs.YtgabchhplmncnaaDoor
namespace Go.Proofs.YtgabchhplmncnaaDoor
open Go.RowKit

/-- 's[i:j]' as a run, at whatever element type -/
theorem slice_g {P : Program} {t : TypeId} (ht : P.underlying t = some (.slice (P.elem t))) {α : Type} [Dat α] (hsz : ∀ w, (sizeOf (P.elem t)).run P w = .ok (Dat.n α) w) {w0 : World} {O : Nat → Prop} {a : Option Addr} {cap : Nat} {l : List α} (h : Rdv w0 O (.slice a l.length cap) l) (i j : Nat) (hij : i ≤ j) (hj : j ≤ l.length) :
    ∃ b, (∀ (x y : Int) (w : World), x = i → y = j → (Instr.slice t (.slice a l.length cap) (some (.int .i64 x)) (some (.int .i64 y)) none).run P w = .ok (.slice b (j - i) (cap - i)) w) ∧
      (∀ (x : Int) (w : World), x = i → j = l.length → (Instr.slice t (.slice a l.length cap) (some (.int .i64 x)) none none).run P w = .ok (.slice b (j - i) (cap - i)) w) ∧
      (∀ (y : Int) (w : World), i = 0 → y = j → (Instr.slice t (.slice a l.length cap) none (some (.int .i64 y)) none).run P w = .ok (.slice b (j - i) (cap - i)) w) ∧
      Rdv w0 O (.slice b (j - i) (cap - i)) ((l.drop i).take (j - i)) := by
  have hr := rdv_sliced h i j hij hj
  obtain ⟨b, hb⟩ := sliced_isSlice a i j cap (Dat.n α)
  obtain ⟨a', cap', e, h1, h2, h3⟩ := rdv_slice h
  simp only [Value.slice.injEq, true_and] at e
  obtain ⟨rfl, rfl⟩ := e
  refine ⟨b, ?_, ?_, ?_, hb ▸ hr⟩
  · rintro x y w rfl rfl
    rw [run_slice_lh w t a l.length cap ht .i64 .i64 _ _ (by omega) (by omega) (by omega), hsz]
    simp only [Result.andThen_ok, Int.toNat_natCast]
    rw [hb]
  · rintro x w rfl rfl
    rw [run_slice_l w t a l.length cap ht .i64 _ (by omega) (by omega), hsz]
    simp only [Result.andThen_ok, Int.toNat_natCast]
    rw [hb]
  · rintro y w rfl rfl
    rw [run_slice_h w t a l.length cap ht .i64 _ (by omega) (by omega), hsz]
    simp only [Result.andThen_ok, Int.toNat_natCast]
    rw [hb]
end Go.Proofs.YtgabchhplmncnaaDoor
namespace Go.Proofs.YtgabchhplmncnaaDoor
open Go.RowKit

theorem rkeep2 {w2 wr wq : World} {p q : Addr} {a b : Value} (h : Chg Never w2 wr ∧ wr.cell? p = some a ∧ wr.cell? q = some b) (k : Chg Never wr wq) : Chg Never w2 wq ∧ wq.cell? p = some a ∧ wq.cell? q = some b :=
  ⟨h.1.trans k, k.cellNever h.2.1, k.cellNever h.2.2⟩
set_option maxHeartbeats 1000000 in
set_option maxRecDepth 100000 in
theorem cost_is (a b : List (List ByteArray)) (i k : Nat) (va vb : Value) (w : World) (ha : Rdv w Never va a) (hb : Rdv w Never vb b) (hla : ∀ x ∈ a, x.length ≤ 99000) (hlb : ∀ x ∈ b, x.length ≤ 99000) (_hi9 : i ≤ 1000000) (_hk9 : k ≤ 1000000) :
    Calls Tryd.prog 8 #[va, vb, .int .i64 i, .int .i64 k] w fun e w' => e = .returned (.int .i64 (rangeCost a b i k)) ∧ Chg Never w w' := by
  obtain ⟨a0, ca, rfl, a1, a2, a3⟩ := rdv_slice ha
  obtain ⟨b0, cb, rfl, b1, b2, b3⟩ := rdv_slice hb
  unfold maxLen at a2 b2
  by_cases hi : i < a.length
  · have ti : decide ((i : Int) < (a.length : Int)) = true := decide_eq_true (by omega)
    have tin : decide (i < a.length) = true := decide_eq_true hi
    obtain ⟨x, hx⟩ : ∃ x, a[i]? = some x := ⟨a[i], by simp [hi]⟩
    have hxl := hla x (List.mem_of_getElem? hx)
    obtain ⟨p, po, xv, rfl, -, -, c0, hxv⟩ := elems_row a3 hx
    by_cases hk : k < b.length
    · have tk : decide ((k : Int) < (b.length : Int)) = true := decide_eq_true (by omega)
      have tkn : decide (k < b.length) = true := decide_eq_true hk
      obtain ⟨y, hy⟩ : ∃ y, b[k]? = some y := ⟨b[k], by simp [hk]⟩
      have hyl := hlb y (List.mem_of_getElem? hy)
      obtain ⟨q, qo, yv, rfl, -, -, d0, hyv⟩ := elems_row b3 hy
      have HR : Hid (rangeCost a b i k = (diffN x y : Nat)) := by unfold Hid rangeCost; rw [hx, hy]
      have ib1 : (i : Int) < (a.length : Int) := by omega
      have ib2 : (k : Int) < (b.length : Int) := by omega
      clear a3 b3 ha hb hx hy
      go_enter Tryd.func8, Tryd.ntmps8
      go_wp2_with fail
      refine wp_region_held_drew (S := fun w' => Chg Never w w' ∧ w'.cell? ⟨p, po + i, none⟩ = some xv ∧ w'.cell? ⟨q, qo + k, none⟩ = some yv) (by kernel_rfl) ⟨(Chg.refl Never w).drew, c0, d0⟩ (fun hH => ?_)
      refine' wpAnyH_take (i := 0) ?hi0 (by kernel_rfl) (by kernel_rfl) (by kernel_rfl) ?hQ0 (Or.inl ⟨?hw0, ?hy0⟩) (by assumption) ?_
      case hi0 => (simp only [List.getElem?_toArray, List.getElem?_cons_zero]; rfl)
      case hQ0 => exact fun _ _ _ h => h
      case hw0 => rfl
      case hy0 => (intro w' hSw; (try dsimp only at hSw); go_simp; all_goals with_reducible rfl)
      try simp only [Act.put, List.setIfInBounds_toArray, List.set_cons_zero, List.set_cons_succ]
      refine' wpAnyH_take (i := 1) ?hi1 (by kernel_rfl) (by kernel_rfl) (by kernel_rfl) ?hQ1 (Or.inl ⟨?hw1, ?hy1⟩) (by assumption) ?_
      case hi1 => (simp only [List.getElem?_toArray, List.getElem?_cons_succ, List.getElem?_cons_zero]; rfl)
      case hQ1 => exact fun _ _ _ h => h
      case hw1 => rfl
      case hy1 => (intro w' hSw; (try dsimp only at hSw); go_simp; all_goals with_reducible rfl)
      try simp only [Act.put, List.setIfInBounds_toArray, List.set_cons_zero, List.set_cons_succ]
      refine' wpAnyH_take (i := 2) ?hi2 (by kernel_rfl) (by kernel_rfl) (by kernel_rfl) ?hQ2 (Or.inl ⟨?hw2, ?hy2⟩) (by assumption) ?_
      case hi2 => (simp only [List.getElem?_toArray, List.getElem?_cons_succ, List.getElem?_cons_zero]; rfl)
      case hQ2 => exact fun _ _ _ h => h
      case hw2 => rfl
      case hy2 => (intro w' hSw; (try dsimp only at hSw); go_simp; all_goals with_reducible rfl)
      try simp only [Act.put, List.setIfInBounds_toArray, List.set_cons_zero, List.set_cons_succ]
      refine' wpAnyH_take (i := 3) ?hi3 (by kernel_rfl) (by kernel_rfl) (by kernel_rfl) ?hQ3 (Or.inl ⟨?hw3, ?hy3⟩) (by assumption) ?_
      case hi3 => (simp only [List.getElem?_toArray, List.getElem?_cons_succ, List.getElem?_cons_zero]; rfl)
      case hQ3 => exact fun _ _ _ h => h
      case hw3 => rfl
      case hy3 => (intro w' hSw; (try dsimp only at hSw); go_simp; all_goals with_reducible rfl)
      try simp only [Act.put, List.setIfInBounds_toArray, List.set_cons_zero, List.set_cons_succ]
      refine' wpAnyH_take (i := 4) ?hi4 (by kernel_rfl) (by kernel_rfl) (by kernel_rfl) ?hQ4 (Or.inl ⟨?hw4, ?hy4⟩) (by assumption) ?_
      case hi4 => (simp only [List.getElem?_toArray, List.getElem?_cons_succ, List.getElem?_cons_zero]; rfl)
      case hQ4 => exact fun _ _ _ h => h
      case hw4 => rfl
      case hy4 => (intro w' hSw; (try dsimp only at hSw); go_simp; all_goals with_reducible rfl)
      try simp only [Act.put, List.setIfInBounds_toArray, List.set_cons_zero, List.set_cons_succ]
      refine' wpAnyH_take (i := 5) ?hi5 (by kernel_rfl) (by kernel_rfl) (by kernel_rfl) ?hQ5 (Or.inl ⟨?hw5, ?hy5⟩) (by assumption) ?_
      case hi5 => (simp only [List.getElem?_toArray, List.getElem?_cons_succ, List.getElem?_cons_zero]; rfl)
      case hQ5 => exact fun _ _ _ h => h
      case hw5 => rfl
      case hy5 => (intro w' hSw; (try dsimp only at hSw); go_simp; all_goals with_reducible rfl)
      try simp only [Act.put, List.setIfInBounds_toArray, List.set_cons_zero, List.set_cons_succ]
      refine' wpAnyH_take (i := 6) ?hi6 (by kernel_rfl) (by kernel_rfl) (by kernel_rfl) ?hQ6 (Or.inl ⟨?hw6, ?hy6⟩) (by assumption) ?_
      case hi6 => (simp only [List.getElem?_toArray, List.getElem?_cons_succ, List.getElem?_cons_zero]; rfl)
      case hQ6 => exact fun _ _ _ h => h
      case hw6 => rfl
      case hy6 => (intro w' hSw; (try dsimp only at hSw); go_simp; all_goals with_reducible rfl)
      try simp only [Act.put, List.setIfInBounds_toArray, List.set_cons_zero, List.set_cons_succ]
      refine' wpAnyH_take (i := 7) ?hi7 (by kernel_rfl) (by kernel_rfl) (by kernel_rfl) ?hQ7 (Or.inl ⟨?hw7, ?hy7⟩) (by assumption) ?_
      case hi7 => (simp only [List.getElem?_toArray, List.getElem?_cons_succ, List.getElem?_cons_zero]; rfl)
      case hQ7 => exact fun _ _ _ h => h
      case hw7 => rfl
      case hy7 => (intro w' hSw; (try dsimp only at hSw); go_simp; all_goals with_reducible rfl)
      try simp only [Act.put, List.setIfInBounds_toArray, List.set_cons_zero, List.set_cons_succ]
      refine wpAnyH_ready (rs := [8]) (by kernel_rfl) (by simp) ?_
      refine AllReadyH.cons rfl (fun K hK => ?_) AllReadyH.nil
      go_simp
      (go_at_call 16; refine (apart_any x y _ _ _ (hxv.never (And.left (by assumption))) (hyv.never (And.left (by assumption))) (by omega) (by omega)).mono ?_; rintro e wq ⟨rfl, hcq⟩; have hS2 := rkeep2 (by assumption) hcq)
      try go_wp2_with fail
      refine hK.out _ _ ?_ (fun hH => ?_)
      · assumption
      clear hK K
      try simp only [Act.put, List.setIfInBounds_toArray, List.set_cons_zero, List.set_cons_succ]
      refine' wpAnyH_take (i := 9) ?hi9 (by kernel_rfl) (by kernel_rfl) (by kernel_rfl) ?hQ9 (Or.inl ⟨?hw9, ?hy9⟩) (by assumption) ?_
      case hi9 => (simp only [List.getElem?_toArray, List.getElem?_cons_succ, List.getElem?_cons_zero]; rfl)
      case hQ9 => exact fun _ _ _ h => h
      case hw9 => rfl
      case hy9 => (intro w' hSw; (try dsimp only at hSw); go_simp; all_goals with_reducible rfl)
      try simp only [Act.put, List.setIfInBounds_toArray, List.set_cons_zero, List.set_cons_succ]
      refine wpAnyH_done (by kernel_rfl) ?_ _
      rename (Chg Never w _ ∧ _) => hF
      have hcF := hF.1
      clear hF
      go_wp2_with fail
      go_ret
      exact ⟨by rw [HR.out]; rfl, hcF⟩
    · have tk : decide ((k : Int) < (b.length : Int)) = false := decide_eq_false (by omega)
      have tkn : decide (k < b.length) = false := decide_eq_false hk
      have HR : Hid (rangeCost a b i k = (aloneN x : Nat)) := by unfold Hid rangeCost; rw [hx, List.getElem?_eq_none (by omega)]
      clear a3 b3 ha hb hx
      go_enter Tryd.func8, Tryd.ntmps8
      go_wp2_with fail
      refine (alone_any x _ _ hxv (by omega)).mono ?_
      rintro e w1 ⟨rfl, hc1⟩
      go_wp2_with fail
      go_ret
      exact ⟨by rw [HR.out]; rfl, hc1⟩
  · have ti : decide ((i : Int) < (a.length : Int)) = false := decide_eq_false (by omega)
    have tin : decide (i < a.length) = false := decide_eq_false hi
    by_cases hk : k < b.length
    · have tk : decide ((k : Int) < (b.length : Int)) = true := decide_eq_true (by omega)
      have tkn : decide (k < b.length) = true := decide_eq_true hk
      obtain ⟨y, hy⟩ : ∃ y, b[k]? = some y := ⟨b[k], by simp [hk]⟩
      have hyl := hlb y (List.mem_of_getElem? hy)
      obtain ⟨q, qo, yv, rfl, -, -, d0, hyv⟩ := elems_row b3 hy
      have HR : Hid (rangeCost a b i k = (aloneN y : Nat)) := by unfold Hid rangeCost; rw [hy, List.getElem?_eq_none (by omega)]
      clear a3 b3 ha hb hy
      go_enter Tryd.func8, Tryd.ntmps8
      go_wp2_with fail
      refine (alone_any y _ _ hyv (by omega)).mono ?_
      rintro e w1 ⟨rfl, hc1⟩
      go_wp2_with fail
      go_ret
      exact ⟨by rw [HR.out]; rfl, hc1⟩
    · have tk : decide ((k : Int) < (b.length : Int)) = false := decide_eq_false (by omega)
      have tkn : decide (k < b.length) = false := decide_eq_false hk
      have HR : Hid (rangeCost a b i k = 0) := by unfold Hid rangeCost; rw [List.getElem?_eq_none (by omega), List.getElem?_eq_none (by omega)]
      clear a3 b3 ha hb
      go_enter Tryd.func8, Tryd.ntmps8
      go_wp2_with fail
      go_ret
      exact ⟨by rw [HR.out]; rfl, Chg.refl _ _⟩

/-! ### a patch's text by lines -/
theorem linesG_ne (p : List Change) : ∀ x ∈ linesG p, x ≠ [] := by
  intro x hx
  unfold linesG at hx
  obtain ⟨c, -, hx⟩ := List.mem_flatMap.1 hx
  unfold changeL at hx
  rcases List.mem_cons.1 hx with rfl | hx
  · unfold mmL; simp
  · rcases List.mem_cons.1 hx with rfl | hx
    · unfold ppL; simp
    · unfold linesU at hx
      obtain ⟨h, -, hx⟩ := List.mem_flatMap.1 hx
      unfold hunkL at hx
      rcases List.mem_cons.1 hx with rfl | hx
      · unfold headL atAt; simp
      · obtain ⟨m, -, rfl⟩ := List.mem_map.1 hx
        unfold markL; simp
theorem textL_two : ∀ (ls : List (List UInt8)), (∀ x ∈ ls, x ≠ []) → 2 * ls.length ≤ (textL ls).length
  | [], _ => Nat.zero_le _
  | x :: ls, h => by
    have ih := textL_two ls fun y hy => h y (List.mem_cons_of_mem _ hy)
    have hx : 0 < x.length := List.length_pos_iff.2 (h x (List.mem_cons_self ..))
    show _ ≤ (x ++ [10] ++ textL ls).length
    simp only [List.length_append, List.length_cons, List.length_nil]
    omega
theorem linesG_few {p : List Change} (h : (patchFault p).2 = 0) : (linesG p).length ≤ 99000 := by
  obtain ⟨h1, h2⟩ := patch_each h
  have := (changes_ok p h2).2
  have := textL_two (linesG p) (linesG_ne p)
  have e : (textG p).length = (textL (linesG p)).length := rfl
  omega
theorem partsG {p : List Change} (h : (patchFault p).2 = 0) : parts 10 (textG p) = linesG p ++ [[]] := by
  obtain ⟨_, h2⟩ := patch_each h
  have := parts_text (linesG p) [] (changes_ok p h2).1
  rw [List.append_nil] at this
  exact this
def textsF (p : List (List Change)) : Int := if 4 < p.length then 3 else firstOf (fun c => (patchFault c).2) p
def textsR (p : List (List Change)) : List (List ByteArray) := if textsF p = 0 then p.map rtextOf else []
theorem elemOk_lines : ElemOk Tryd.prog 39 51 1 := elemOk_of Tryd.underlying39 (z := .slice none 0 0) (b := 24) (by kernel_rfl) rfl (by decide)
theorem firstOf_from {α : Type} {f : α → Int} {l : List α} {k : Nat} {x : α} (h : firstOf f (l.drop k) = firstOf f l) (hx : l[k]? = some x) : (f x = 0 → firstOf f (l.drop (k + 1)) = firstOf f l) ∧ (f x ≠ 0 → firstOf f l = f x) := by
  rw [drop_eq hx, firstOf] at h
  constructor
  · intro e; rw [if_pos e] at h; exact h
  · intro e; rw [if_neg e] at h; exact h.symm
theorem map_take_succ {α β : Type} {f : α → β} {l : List α} {k : Nat} {x : α} (hx : l[k]? = some x) : (l.take (k + 1)).map f = (l.take k).map f ++ [f x] := by
  rw [List.take_add_one, hx, Option.toList_some, List.map_append]; rfl
set_option maxHeartbeats 2000000 in
set_option maxRecDepth 100000 in
theorem rtexts_any (p : List (List Change)) (v : Value) (w : World) (h : Rdv w Never v p) (m : Int) (hm : w.cell? ⟨0, 0, none⟩ = some (.int .i64 m)) :
    Calls Tryd.prog 7 #[v] w fun e w' => ∃ r, e = .returned (.tuple #[r, errV (textsF p)]) ∧ Chg Never w w' ∧ Rdv w' (Old w.heap.size) r (textsR p) := by
  obtain ⟨a, cap, rfl, h1, h2, h3⟩ := rdv_slice h
  unfold maxLen at h2
  by_cases h4 : 4 < p.length
  · have HF : Hid (textsF p = 3) := if_pos h4
    have t4 : decide ((4 : Int) < (p.length : Int)) = true := decide_eq_true (by omega)
    go_enter Tryd.func7, Tryd.ntmps7
    go_wp2_with fail
    go_ret2
    exact ⟨_, by rw [HF.out, errV_pos (by decide)]; rfl, Chg.refl _ _, by rw [show textsR p = [] from if_neg (by rw [HF.out]; decide)]; exact rdv_nil _ _⟩
  · have HF : Hid (textsF p = firstOf (fun c => (patchFault c).2) p) := if_neg h4
    have t4 : decide ((4 : Int) < (p.length : Int)) = false := decide_eq_false (by omega)
    go_enter Tryd.func7, Tryd.ntmps7
    go_wp2_with fail
    go_loopw [4, 16] (fun ov iv wr => ∃ k : Nat, k ≤ p.length ∧ iv = .int .i64 k ∧ Chg Never w wr ∧ Own 51 wr (Old w.heap.size) ov ((p.take k).map rtextOf) ∧ Hid (firstOf (fun c => (patchFault c).2) (p.drop k) = firstOf (fun c => (patchFault c).2) p)) (fun _ iv _ => p.length - (intOf iv).toNat)
    case atStart => exact ⟨0, Nat.zero_le _, rfl, Chg.refl _ _, own_nil _ _ _, rfl⟩
    case round =>
      obtain ⟨k, hk, rfl, hc, hown, hf⟩ := hrel
      rename World => wr
      obtain ⟨va, vn, vc, rfl⟩ := own_isSlice hown
      by_cases hlt : k < p.length
      · obtain ⟨x, hx⟩ : ∃ x, p[k]? = some x := ⟨p[k], by simp [hlt]⟩
        obtain ⟨b, off, xv, rfl, -, -, c0, hxv⟩ := elems_row h3 hx
        have c0 := hc.cellNever c0
        have hMT := Lib.hid (map_take_succ (f := rtextOf) hx)
        obtain ⟨st1, st2⟩ := firstOf_from hf.out hx
        obtain ⟨xa, xc, rfl, -, -, -⟩ := rdv_slice hxv
        clear h3 h hx
        go_wp2_with fail
        refine (gitprint_any x _ _ (hxv.never hc) m (hc.cellNever hm)).mono ?_
        rintro e w1 ⟨rfl, hc1⟩
        have hw1 := hc.trans hc1
        clear c0 hxv
        by_cases hz : (patchFault x).2 = 0
        · have HS2 := Lib.hid (st1 hz)
          have HG : Hid ((gitR x).data.toList = textG x) := by unfold Hid gitR; rw [if_pos hz, toB_data]
          have hTl : (textG x).length ≤ 200000 := by
            obtain ⟨q1, q2⟩ := patch_each hz
            have := (changes_ok x q2).2
            omega
          have hsz : (gitR x).size ≤ 200000 := by rw [Lib.size_eq, HG.out]; exact hTl
          have HSP : Hid (Lib.splitB ⟨#[10]⟩ 0 (Lib.countB (gitR x) ⟨#[10]⟩) (gitR x) = rtextOf x ++ [toB []]) := by rw [Hid, splitB_parts, HG.out, partsG hz, List.map_append]; rfl
          have HLEN : Hid (Lib.countB (gitR x) ⟨#[10]⟩ + 1 = (rtextOf x ++ [toB []]).length) := by
            have := Lib.splitB_all ⟨#[10]⟩ (by decide) 0 _ (gitR x) rfl
            rw [Hid, ← this, HSP.out]
          have hfew : (rtextOf x).length ≤ 99000 := by unfold rtextOf; rw [List.length_map]; exact linesG_few hz
          have hLs : Hid (∀ y ∈ rtextOf x ++ [toB []], y.size ≤ maxLen) := by
            intro y hy
            have hy2 : y.data.toList ∈ parts 10 (textG x) := by
              rw [partsG hz]
              rcases List.mem_append.1 hy with hy | hy
              · unfold rtextOf at hy
                obtain ⟨q, hq, rfl⟩ := List.mem_map.1 hy
                rw [toB_data]
                exact List.mem_append_left _ hq
              · rw [List.mem_singleton.1 hy, toB_data]; simp
            have := parts_mem 10 _ _ hy2
            rw [Lib.size_eq]; unfold maxLen; omega
          have HTX : Hid (rtextOf x = rtextOf x) := rfl
          rw [hz, errV_zero]
          obtain ⟨L, hL⟩ : ∃ L, rtextOf x = L := ⟨_, rfl⟩
          rw [hL] at HSP HLEN hfew hLs hMT
          generalize gitR x = s at hsz HSP HLEN HG ⊢
          clear hz st1 st2 hTl HTX hL hf
          go_wp2_with fail
          refine (Tryd.strings_Split s ⟨#[10]⟩ m _ (by omega) (hw1.cellNever hm) (by decide)).mono ?_
          rintro e w2 ⟨rfl, rfl⟩
          rw [HSP.out, HLEN.out]
          have hA : Chg Never w1 (w1.alloc (.cells ((L ++ [toB []]).map Value.string).toArray 9)) := (Chg.refl Never w1).alloc _
          have hvl := own_block_lt hown
          have hR0 : Rdv (w1.alloc (.cells ((L ++ [toB []]).map Value.string).toArray 9)) (fun q => Old w.heap.size q ∨ (Value.slice va vn vc).ownBlock = some q) (.slice (some ⟨w1.heap.size, 0, none⟩) (L ++ [toB []]).length (L ++ [toB []]).length) (L ++ [toB []]) :=
            rdv_strs (heap_alloc_new _ _) (fun e => by
              rcases e with e | e
              · unfold Old at e; have := hw1.size; omega
              · have := hvl _ e; have := hc1.size; omega) rfl (by rw [List.length_append]; simp only [List.length_cons, List.length_nil]; unfold maxLen; omega) hLs.out
          have hw2 := hw1.trans hA
          have hown2 := hown.never (hc1.trans hA)
          generalize w1.alloc (.cells ((L ++ [toB []]).map Value.string).toArray 9) = w3 at hR0 hw2 hown2 ⊢
          generalize w1.heap.size = G at hR0 ⊢
          obtain ⟨sb, -, -, hrun, hsub⟩ := slice_g (P := Tryd.prog) (t := 51) (by kernel_rfl) size_str hR0 0 L.length (Nat.zero_le _) (by simp)
          rw [List.drop_zero, Nat.sub_zero, Nat.sub_zero, List.take_left] at hsub
          have hNL : (L ++ [toB []]).length = L.length + 1 := by simp
          rw [hNL] at hrun hsub ⊢
          rw [Nat.sub_zero, Nat.sub_zero] at hrun
          have hrun := fun (wx : World) => hrun (L.length : Nat) wx rfl rfl
          have sw : IntKind.i64.wrap (((L.length + 1 : Nat) : Int) - 1) = (L.length : Int) := by rw [show ((L.length + 1 : Nat) : Int) - 1 = (L.length : Int) by omega]; exact IntWalk.i64_in _ (by omega)
          have hlen : ((p.take k).map rtextOf).length ≤ 1000000000 := by rw [List.length_map, List.length_take]; omega
          clear hR0 hown hA hvl hw1 hc1 hc hNL
          go_wp2_with (at_builtin; refine wpList_push (by rfl) _ _ 39 (by rfl) elemOk_lines (O := Old w.heap.size) (l := (p.take k).map rtextOf) (y := L) (by rfl) (by rfl) (by simp) hown2 hsub (old_lt hw2) hlen ?_; intro v' w4 hown4 hc4 _)
          have hw4 := own_step hw2 hown2 hc4
          clear hrun
          go_wp2_with fail
          go_roundw
          case rel => exact ⟨k + 1, by omega, by go_num, hw4, by rw [hMT.out]; exact hown4, HS2⟩
          case measure => simp [intOf] <;> omega
        · have HF2 : Hid (textsF p = (patchFault x).2) := by rw [Hid, HF.out, st2 hz]
          have HZ := Lib.hid hz
          rw [errV_pos hz]
          clear hz st1 st2 hf hown
          go_wp2_with fail
          go_ret2
          exact ⟨_, by rw [HF2.out, errV_pos HZ.out]; rfl, hw1, by rw [show textsR p = [] from if_neg (by rw [HF2.out]; exact HZ.out)]; exact rdv_nil _ _⟩
      · have hf' := hf.out
        rw [List.drop_of_length_le (by omega)] at hf'
        have HF2 : Hid (textsF p = 0) := by rw [Hid, HF.out, ← hf']; rfl
        rw [List.take_of_length_le (by omega)] at hown
        have hr := hown.rdv
        clear hf hf'
        go_wp2_with fail
        go_ret2
        exact ⟨_, by rw [HF2.out, errV_zero]; rfl, hc, by rw [show textsR p = p.map rtextOf from if_pos HF2.out]; exact hr⟩
end Go.Proofs.YtgabchhplmncnaaDoor
namespace Go.Proofs.YtgabchhplmncnaaDoor
open Go.RowKit

theorem elems_ints {w : World} {O : Nat → Prop} {a : Option Addr} {l : List Int} (h : Elems w O a l) {i : Nat} {x : Int} (hx : l[i]? = some x) :
    ∃ b off, a = some ⟨b, off, none⟩ ∧ ¬ O b ∧ w.cell? ⟨b, off + i, none⟩ = some (.int .i64 x) ∧ I64 x := by
  obtain ⟨b, off, es, ha, hb, hc, rfl, hr⟩ := h i x hx
  refine ⟨b, off, ha, hb, ?_, hr⟩
  have := hc 0 _ rfl
  rw [show off + i * Dat.n Int + 0 = off + i by show off + i * 1 + 0 = _; omega] at this
  exact this
end Go.Proofs.YtgabchhplmncnaaDoor
namespace Go.Proofs.YtgabchhplmncnaaDoor
open Go.RowKit

def costBad (c : Int) : Int := if c < 0 ∨ 100000 < c then 1 else 0
def rowFault (n : Nat) (row : List Int) : Int := if row.length ≠ n then 2 else firstOf costBad row
def sqFault (c : List (List Int)) : Int := if 8 < c.length then 3 else firstOf (rowFault c.length) c

end Go.Proofs.YtgabchhplmncnaaDoor
namespace Go.Proofs.YtgabchhplmncnaaDoor
open Go.RowKit Go.Maps

theorem int_law : Keyed Tryd.prog 3 := int_keyed Tryd.underlying3
theorem zero_int (w : World) : (zeroValue 3).run Tryd.prog w = .ok (.int .i64 0) w := by kernel_rfl
/-- block b is a map of at most n entries that holds F j at j (nothing: 0) -/
def IntMap (w : World) (b n : Nat) (F : Int → Int) : Prop :=
  ∃ D : DataW Unit, w.ownsMap Tryd.prog 3 (plainElem Tryd.prog 3) b n D ∧ IsMap D ∧ ∀ j, D.atKey (.int .i64 j) (.lit (.int .i64 0)) = .lit (.int .i64 (F j))
theorem IntMap.lt {w : World} {b n : Nat} {F : Int → Int} (h : IntMap w b n F) : b < w.heap.size := by
  obtain ⟨D, h1, _⟩ := h
  exact h1.lt
theorem IntMap.keep {w w' : World} {b n : Nat} {F : Int → Int} {O : Nat → Prop} (h : IntMap w b n F) (hc : Chg O w w') (hb : ¬ O b) : IntMap w' b n F := by
  have hlt := h.lt
  obtain ⟨D, ⟨es, clock, h1, h2⟩, h3⟩ := h
  exact ⟨D, ⟨es, clock, (hc.block b hlt hb).trans h1, h2⟩, h3⟩
theorem IntMap.mono {w : World} {b n n' : Nat} {F : Int → Int} (h : IntMap w b n F) (hn : n ≤ n') : IntMap w b n' F := by
  obtain ⟨D, h1, h2⟩ := h
  exact ⟨D, h1.mono hn, h2⟩
theorem intMap_made (w : World) : IntMap (w.alloc (.map #[] 0)) w.heap.size 0 fun _ => 0 :=
  ⟨_, World.ownsMap_made w _ _ _, isMap_empty, fun j => by simp [DataW.atKey]⟩
theorem wf_i64 {a : Int} (h : I64 a) : (Lit.int .i64 a).wf = true := by
  unfold I64 at h
  exact WalkArith.wf_i64 (by omega)
theorem IntMap.look {w : World} {b n : Nat} {F : Int → Int} (h : IntMap w b n F) {j : Int} (hj : I64 j) : (Instr.lookup 45 (.map (some b)) (.int .i64 j) false).run Tryd.prog w = .ok (.int .i64 (F j)) w := by
  obtain ⟨D, h1, h2, h3⟩ := h
  obtain ⟨c, hrun, hat, _⟩ := h1.lookup_int int_law Tryd.underlying45 Tryd.underlying3 (zero_int w) (keyOf_int_mk Tryd.underlying3 (wf_i64 hj))
  rw [h3 j] at hat
  simp only [DataW.lit.injEq, Lit.int.injEq, true_and] at hat
  rw [hat]
  exact hrun
theorem IntMap.put {w : World} {b n : Nat} {F : Int → Int} (h : IntMap w b n F) (hn : n < maxLen) {j c : Int} (hj : I64 j) (hc : I64 c) :
    ∃ w', (Instr.mapUpdate 45 (.map (some b)) (.int .i64 j) (.int .i64 c)).run Tryd.prog w = .ok () w' ∧ IntMap w' b (n + 1) (fun i => if i = j then c else F i) ∧ Chg (fun k => k = b) w w' := by
  obtain ⟨D, h1, h2, h3⟩ := h
  obtain ⟨w', hrun, r1, r2⟩ := h1.update int_law Tryd.underlying45 hn (keyOf_int_mk Tryd.underlying3 (wf_i64 hj)) (plainElem_int Tryd.underlying3 (wf_i64 hc))
  refine ⟨w', hrun, ⟨_, r1, h2.put _ _, fun i => ?_⟩, (Chg.of_grown r2).mono (fun k _ hk => (Option.some.inj hk).symm)⟩
  by_cases e : i = j
  · subst e
    show _ = DataW.lit (.int .i64 (if i = i then c else F i))
    rw [if_pos rfl]
    exact atKey_put_same h2 (by simp [WideAt.IsKeyLit]) _ _
  · show _ = DataW.lit (.int .i64 (if i = j then c else F i))
    rw [if_neg e, atKey_put_other (by simp [e])]
    exact h3 i
theorem wpList_put {ops : Array Oper} {rest : List Oper} {o : Oper} {a : Act} {Q : Exit → Act → World → Prop} (hg : o.guard = none) (m x v : Operand)
    (hop : o.op = Op.mapUpdate 45 m x v ∨ o.op = Op.insert 45 m x v) {w : World} {b n : Nat} {F : Int → Int} {j c : Int}
    (hm : a.eval m = .map (some b)) (hx : a.eval x = .int .i64 j) (hv : a.eval v = .int .i64 c) (h : IntMap w b n F) (hn : n < maxLen) (hj : I64 j) (hc : I64 c)
    (hK : ∀ w', IntMap w' b (n + 1) (fun i => if i = j then c else F i) → Chg (fun k => k = b) w w' → wpList Tryd.prog ops Q rest (a.put o.dst undef) w') :
    wpList Tryd.prog ops Q (o :: rest) a w := by
  refine wpList_plain hg fun K' hK' => ?_
  obtain ⟨w', hrun, r1, r2⟩ := h.put hn hj hc
  unfold Oper.wp
  rcases hop with hop | hop
  · simp [execOp, hop, hm, hx, hv, hrun, Result.andThen]
    exact hK' _ _ (hK w' r1 r2)
  · simp [execOp, hop, hm, hx, hv, hrun, Result.andThen]
    exact hK' _ _ (hK w' r1 r2)
end Go.Proofs.YtgabchhplmncnaaDoor
namespace Go.Proofs.YtgabchhplmncnaaDoor
theorem bits_and_i64 (a b : Nat) (ha : a < 9223372036854775808) (hb : b < 9223372036854775808) : bits .and .i64 (a : Int) (b : Int) = ((a &&& b : Nat) : Int) := by
  have h1 : (BitVec.ofInt 64 (a : Int)).toNat = a := by rw [BitVec.ofInt_natCast, BitVec.toNat_ofNat]; exact Nat.mod_eq_of_lt (by omega)
  have h2 : (BitVec.ofInt 64 (b : Int)).toNat = b := by rw [BitVec.ofInt_natCast, BitVec.toNat_ofNat]; exact Nat.mod_eq_of_lt (by omega)
  have h3 : a &&& b < 9223372036854775808 := Nat.lt_of_le_of_lt Nat.and_le_left ha
  show IntKind.i64.wrap ((BitVec.ofInt 64 (a : Int) &&& BitVec.ofInt 64 (b : Int)).toNat : Int) = _
  rw [BitVec.toNat_and, h1, h2]
  simp only [IntKind.wrap, IntKind.bits, IntKind.signed]
  generalize a &&& b = c at h3 ⊢
  simp
  omega
theorem bits_or_i64 (a b : Nat) (ha : a < 4611686018427387904) (hb : b < 4611686018427387904) : bits .or .i64 (a : Int) (b : Int) = ((a ||| b : Nat) : Int) := by
  have h1 : (BitVec.ofInt 64 (a : Int)).toNat = a := by rw [BitVec.ofInt_natCast, BitVec.toNat_ofNat]; exact Nat.mod_eq_of_lt (by omega)
  have h2 : (BitVec.ofInt 64 (b : Int)).toNat = b := by rw [BitVec.ofInt_natCast, BitVec.toNat_ofNat]; exact Nat.mod_eq_of_lt (by omega)
  have h3 : a ||| b < 2 ^ 62 := Nat.or_lt_two_pow (by omega) (by omega)
  show IntKind.i64.wrap ((BitVec.ofInt 64 (a : Int) ||| BitVec.ofInt 64 (b : Int)).toNat : Int) = _
  rw [BitVec.toNat_or, h1, h2]
  simp only [IntKind.wrap, IntKind.bits, IntKind.signed]
  generalize a ||| b = c at h3 ⊢
  simp
  omega
theorem bits_del64 : ∀ s : Nat, s < 256 → ∀ k : Nat, k < 8 → s.testBit k = true → bits .andNot .i64 (s : Int) ((2 ^ k : Nat) : Int) = ((s - 2 ^ k : Nat) : Int) := by decide +kernel
theorem bits_low64 : ∀ s : Nat, s < 256 → 0 < s → bits .and .i64 (s : Int) ((s : Int) - 1) = ((s &&& (s - 1) : Nat) : Int) := by decide +kernel
theorem bits_at64 : ∀ s : Nat, s < 256 → ∀ k : Nat, k < 8 → (bits .and .i64 ((s : Int) / 2 ^ k) 1 == 1) = s.testBit k := by decide +kernel
end Go.Proofs.YtgabchhplmncnaaDoor
