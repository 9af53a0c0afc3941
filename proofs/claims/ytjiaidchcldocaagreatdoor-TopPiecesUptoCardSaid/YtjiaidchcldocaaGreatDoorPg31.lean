/-
  PARTS: WHAT WAS DONE LEADS FROM A TREE TO A TREE, in plain Lean.; PATCHES FROM TREE TO TREE, in plain Lean (the statements of the whole): what is found between neighbours, what a series run leads to.; THE WALK of patch.done: what a change does to what a path reads.; THE WALKS of tree.Find (a binary search).
-/
import Derived.Test.YtjiaidchcldocaaGreatDoorPg6
import Derived.Test.YtjiaidchcldocaaGreatDoorPg30
import Derived.Test.YtjiaidchcldocaaGreatDoorPg15
import Derived.Test.YtjiaidchcldocaaGreatDoorPg12
import Derived.BigQuiet
import Derived.Test.YtjiaidchcldocaaGreatDoorPg14
set_option linter.unusedVariables false
set_option linter.unusedSimpArgs false
namespace Go.Proofs.YtjiaidchcldocaaGreatDoor

end Go.Proofs.YtjiaidchcldocaaGreatDoor
namespace Go.Proofs.YtjiaidchcldocaaGreatDoor

/-- what a series run makes of a tree -/
def runGoS : List File → List (List Change) → List File × Int
  | t, [] => (t, 0)
  | t, c :: r => if (applyR t c).2.2 = 0 then runGoS (applyR t c).1 r else ([], (applyR t c).2.2)
end Go.Proofs.YtjiaidchcldocaaGreatDoor
namespace Go.Proofs.YtjiaidchcldocaaGreatDoor
open Go.RowKit

def doneR (there : Bool) (L : List ByteArray) (c : Change) : List ByteArray × Bool × Int :=
  if c.what = 2 ∧ there = true then ([], false, 6)
  else if c.what ≠ 2 ∧ there = false then ([], false, 4)
  else if (strict L c.hunks).2.2 ≠ 0 then ([], false, (strict L c.hunks).2.2)
  else if c.what = 3 ∧ (strict L c.hunks).1 ≠ [] then ([], false, 6)
  else ((strict L c.hunks).1, decide (c.what ≠ 3), 0)
theorem done_step (x : Option (List ByteArray)) (c : Change) : stepOf x c = (if (doneR x.isSome (x.getD []) c).2.1 = true then some (doneR x.isSome (x.getD []) c).1 else none, (doneR x.isSome (x.getD []) c).2.2) := by
  unfold stepOf doneR
  by_cases h1 : c.what = 2 ∧ x.isSome = true
  · rw [if_pos h1, if_pos h1]; rfl
  · rw [if_neg h1, if_neg h1]
    by_cases h2 : c.what ≠ 2 ∧ x.isSome = false
    · rw [if_pos h2, if_pos h2]; rfl
    · rw [if_neg h2, if_neg h2]
      by_cases h3 : (strict (x.getD []) c.hunks).2.2 ≠ 0
      · rw [if_pos h3, if_pos h3]; rfl
      · rw [if_neg h3, if_neg h3]
        by_cases h4 : c.what = 3
        · by_cases h5 : (strict (x.getD []) c.hunks).1 = []
          · simp [h4, h5]
          · simp [h4, h5]
        · simp [h4]
theorem done_clash {there : Bool} {L : List ByteArray} {c : Change} (h : c.what = 2 ∧ there = true) : doneR there L c = ([], false, 6) := if_pos h
theorem done_none {there : Bool} {L : List ByteArray} {c : Change} (h : c.what ≠ 2 ∧ there = false) : doneR there L c = ([], false, 4) := by unfold doneR; rw [if_neg (fun g => h.1 g.1), if_pos h]
theorem done_bad {there : Bool} {L : List ByteArray} {c : Change} (h1 : ¬ (c.what = 2 ∧ there = true)) (h2 : ¬ (c.what ≠ 2 ∧ there = false)) (h : (strict L c.hunks).2.2 ≠ 0) : doneR there L c = ([], false, (strict L c.hunks).2.2) := by unfold doneR; rw [if_neg h1, if_neg h2, if_pos h]
theorem done_left {there : Bool} {L : List ByteArray} {c : Change} (h1 : ¬ (c.what = 2 ∧ there = true)) (h2 : ¬ (c.what ≠ 2 ∧ there = false)) (h : (strict L c.hunks).2.2 = 0) (g : c.what = 3 ∧ (strict L c.hunks).1 ≠ []) : doneR there L c = ([], false, 6) := by unfold doneR; rw [if_neg h1, if_neg h2, if_neg (by rw [h]; decide), if_pos g]
theorem done_good {there : Bool} {L : List ByteArray} {c : Change} (h1 : ¬ (c.what = 2 ∧ there = true)) (h2 : ¬ (c.what ≠ 2 ∧ there = false)) (h : (strict L c.hunks).2.2 = 0) (g : ¬ (c.what = 3 ∧ (strict L c.hunks).1 ≠ [])) : doneR there L c = ((strict L c.hunks).1, decide (c.what ≠ 3), 0) := by unfold doneR; rw [if_neg h1, if_neg h2, if_neg (by rw [h]; decide), if_neg g]
def DonePost (there : Bool) (L : List ByteArray) (c : Change) (w : World) (e : Ending) (w' : World) : Prop := ∃ r, e = .returned (.tuple #[r, .bool (doneR there L c).2.1, errV (doneR there L c).2.2]) ∧ Chg Never w w' ∧ Rdv w' (Old w.heap.size) r (doneR there L c).1
theorem donePost_bad {there : Bool} {L : List ByteArray} {c : Change} {w w' : World} {k : Int} (h : doneR there L c = ([], false, k)) (hc : Chg Never w w') : DonePost there L c w (.returned (.tuple #[.slice none 0 0, .bool false, errV k])) w' :=
  ⟨_, by rw [h], hc, by rw [h]; exact rdv_nil _ _⟩
theorem donePost_ok {there b : Bool} {L R : List ByteArray} {c : Change} {w w' : World} {r : Value} (h : doneR there L c = (R, b, 0)) (hc : Chg Never w w') (hr : Rdv w' (Old w.heap.size) r R) : DonePost there L c w (.returned (.tuple #[r, .bool b, .nilIface])) w' :=
  ⟨_, by rw [h]; rfl, hc, by rw [h]; exact hr⟩
set_option maxHeartbeats 2000000 in
set_option maxRecDepth 100000 in
theorem done_go (there : Bool) (L : List ByteArray) (wh : Int) (pa : ByteArray) (hs : List Hunk) (lv hv : Value) (w : World) (hL : Rdv w Never lv L) (hh : Rdv w Never hv hs) :
    Calls Tryz.prog 77 #[lv, .bool there, .agg #[.int .i64 wh, .string pa, hv]] w fun e w' => DonePost there L ⟨wh, pa, hs⟩ w e w' := by
  obtain ⟨a, cap, rfl, h1, h2, _⟩ := rdv_slice hh
  obtain ⟨la, lcap, rfl, _, _, _⟩ := rdv_slice hL
  by_cases k2 : wh = 2
  · subst k2
    obtain ⟨hA, b0, b1, b2⟩ := box1_change w 85 2 pa (.slice a hs.length cap) _ rfl
    cases there with
    | true =>
      have HG := Lib.hid (donePost_bad (w := w) (done_clash (L := L) (c := ⟨2, pa, hs⟩) ⟨rfl, rfl⟩) hA)
      go_enter Tryz.func77, Tryz.ntmps77
      go_wp2_with fail
      go_ret3
      have E := HG.out
      rw [errV_pos (by decide)] at E
      exact E
    | false =>
      have n1 : ¬ ((⟨2, pa, hs⟩ : Change).what = 2 ∧ false = true) := fun h => by cases h.2
      have n2 : ¬ ((⟨2, pa, hs⟩ : Change).what ≠ 2 ∧ false = false) := fun h => h.1 rfl
      by_cases z : (strict L hs).2.2 = 0
      · have HG : Hid (doneR false L ⟨2, pa, hs⟩ = ((strict L hs).1, true, 0)) := done_good n1 n2 z (fun h => absurd (show (2 : Int) = 3 from h.1) (by decide))
        have ZS := Lib.hid z
        clear z n1 n2
        go_enter Tryz.func77, Tryz.ntmps77
        go_wp2_with fail
        generalize w.alloc (.cells #[.int .i64 2, .string pa, .slice a hs.length cap] 85) = wA at hA b0 b1 b2 ⊢
        refine (strict_any L hs _ _ _ (hL.never hA) (hh.never hA)).mono ?_
        rintro e w2 ⟨r, rfl, hc2, hr⟩
        have hw := hA.trans hc2
        have b0 := hc2.cellNever b0
        have hr := hr.sub (O' := Old w.heap.size) (fun k _ h => Nat.lt_of_lt_of_le h hA.size)
        clear hc2 b1 b2
        skip
        obtain ⟨ra, rc, rfl, _, _, _⟩ := rdv_slice hr
        rw [ZS.out, errV_zero]
        go_wp2_with fail
        go_quiet (fail)
        go_wp2_with fail
        go_ret3
        exact donePost_ok HG.out (hw.drewN _) (hr.never ((Chg.refl Never _).drewN _))
      · have HG := Lib.hid (done_bad n1 n2 z)
        have ZS := Lib.hid z
        clear z n1 n2
        go_enter Tryz.func77, Tryz.ntmps77
        go_wp2_with fail
        generalize w.alloc (.cells #[.int .i64 2, .string pa, .slice a hs.length cap] 85) = wA at hA b0 b1 b2 ⊢
        refine (strict_any L hs _ _ _ (hL.never hA) (hh.never hA)).mono ?_
        rintro e w2 ⟨r, rfl, hc2, hr⟩
        have hw := hA.trans hc2
        have b0 := hc2.cellNever b0
        have hr := hr.sub (O' := Old w.heap.size) (fun k _ h => Nat.lt_of_lt_of_le h hA.size)
        clear hc2 b1 b2
        skip
        obtain ⟨ra, rc, rfl, _, _, _⟩ := rdv_slice hr
        rw [errV_pos ZS.out]
        clear b0
        go_wp2_with fail
        go_ret3
        have E := donePost_bad HG.out hw
        rw [errV_pos ZS.out] at E
        exact E
  · have t2 : (wh == 2) = false := by simp [k2]
    have t2' : (wh != 2) = true := by simp [k2]
    obtain ⟨hA, b0, b1, b2⟩ := box1_change w 85 wh pa (.slice a hs.length cap) _ rfl
    cases there with
    | false =>
      have HG := Lib.hid (donePost_bad (w := w) (done_none (L := L) (c := ⟨wh, pa, hs⟩) ⟨k2, rfl⟩) hA)
      clear k2
      go_enter Tryz.func77, Tryz.ntmps77
      go_wp2_with fail
      go_ret3
      have E := HG.out
      rw [errV_pos (by decide)] at E
      exact E
    | true =>
      have n1 : ¬ ((⟨wh, pa, hs⟩ : Change).what = 2 ∧ true = true) := fun h => k2 h.1
      have n2 : ¬ ((⟨wh, pa, hs⟩ : Change).what ≠ 2 ∧ true = false) := fun h => by cases h.2
      by_cases z : (strict L hs).2.2 = 0
      · have ZS := Lib.hid z
        by_cases k3 : wh = 3
        · subst k3
          by_cases h0 : (strict L hs).1 = []
          · have HG : Hid (doneR true L ⟨3, pa, hs⟩ = ([], false, 0)) := (done_good n1 n2 z (fun h => h.2 h0)).trans (by rw [show (strict L (⟨3, pa, hs⟩ : Change).hunks).1 = [] from h0]; rfl)
            have H0 := Lib.hid h0
            clear z n1 n2 k2 h0 t2 t2'
            go_enter Tryz.func77, Tryz.ntmps77
            go_wp2_with fail
            generalize w.alloc (.cells #[.int .i64 3, .string pa, .slice a hs.length cap] 85) = wA at hA b0 b1 b2 ⊢
            refine (strict_any L hs _ _ _ (hL.never hA) (hh.never hA)).mono ?_
            rintro e w2 ⟨r, rfl, hc2, hr⟩
            have hw := hA.trans hc2
            have b0 := hc2.cellNever b0
            have hr := hr.sub (O' := Old w.heap.size) (fun k _ h => Nat.lt_of_lt_of_le h hA.size)
            clear hc2 b1 b2
            rw [H0.out] at hr
            obtain ⟨ra, rc, rfl, _, _, _⟩ := rdv_slice hr
            rw [ZS.out, errV_zero]
            go_wp2_with fail
            go_quiet (fail)
            go_wp2_with fail
            go_ret3
            exact donePost_ok HG.out (hw.drewN _) (hr.never ((Chg.refl Never _).drewN _))
          · have HG := Lib.hid (done_left n1 n2 z ⟨rfl, h0⟩)
            have hpos : 0 < (strict L hs).1.length := List.length_pos_iff.2 h0
            clear z n1 n2 k2 h0 t2 t2'
            go_enter Tryz.func77, Tryz.ntmps77
            go_wp2_with fail
            generalize w.alloc (.cells #[.int .i64 3, .string pa, .slice a hs.length cap] 85) = wA at hA b0 b1 b2 ⊢
            refine (strict_any L hs _ _ _ (hL.never hA) (hh.never hA)).mono ?_
            rintro e w2 ⟨r, rfl, hc2, hr⟩
            have hw := hA.trans hc2
            have b0 := hc2.cellNever b0
            have hr := hr.sub (O' := Old w.heap.size) (fun k _ h => Nat.lt_of_lt_of_le h hA.size)
            clear hc2 b1 b2
            skip
            obtain ⟨ra, rc, rfl, _, _, _⟩ := rdv_slice hr
            rw [ZS.out, errV_zero]
            go_wp2_with fail
            all_goals first | (go_ret3; have E := donePost_bad HG.out hw; rw [errV_pos (by decide)] at E; exact E) | skip
        · have t3 : (wh == 3) = false := by simp [k3]
          have HG : Hid (doneR true L ⟨wh, pa, hs⟩ = ((strict L hs).1, wh != 3, 0)) := (done_good n1 n2 z (fun h => k3 h.1)).trans (by rw [show decide ((⟨wh, pa, hs⟩ : Change).what ≠ 3) = true from decide_eq_true k3, show (wh != 3) = true by simp [k3]])
          clear z n1 n2 k2 k3
          go_enter Tryz.func77, Tryz.ntmps77
          go_wp2_with fail
          generalize w.alloc (.cells #[.int .i64 wh, .string pa, .slice a hs.length cap] 85) = wA at hA b0 b1 b2 ⊢
          refine (strict_any L hs _ _ _ (hL.never hA) (hh.never hA)).mono ?_
          rintro e w2 ⟨r, rfl, hc2, hr⟩
          have hw := hA.trans hc2
          have b0 := hc2.cellNever b0
          have hr := hr.sub (O' := Old w.heap.size) (fun k _ h => Nat.lt_of_lt_of_le h hA.size)
          clear hc2 b1 b2
          skip
          obtain ⟨ra, rc, rfl, _, _, _⟩ := rdv_slice hr
          rw [ZS.out, errV_zero]
          go_wp2_with fail
          go_quiet (fail)
          go_wp2_with fail
          go_ret3
          exact donePost_ok HG.out (hw.drewN _) (hr.never ((Chg.refl Never _).drewN _))
      · clear k2
        have HG := Lib.hid (done_bad n1 n2 z)
        have ZS := Lib.hid z
        clear z n1 n2
        go_enter Tryz.func77, Tryz.ntmps77
        go_wp2_with fail
        generalize w.alloc (.cells #[.int .i64 wh, .string pa, .slice a hs.length cap] 85) = wA at hA b0 b1 b2 ⊢
        refine (strict_any L hs _ _ _ (hL.never hA) (hh.never hA)).mono ?_
        rintro e w2 ⟨r, rfl, hc2, hr⟩
        have hw := hA.trans hc2
        have b0 := hc2.cellNever b0
        have hr := hr.sub (O' := Old w.heap.size) (fun k _ h => Nat.lt_of_lt_of_le h hA.size)
        clear hc2 b1 b2
        skip
        obtain ⟨ra, rc, rfl, _, _, _⟩ := rdv_slice hr
        rw [errV_pos ZS.out]
        clear b0
        go_wp2_with fail
        go_ret3
        have E := donePost_bad HG.out hw
        rw [errV_pos ZS.out] at E
        exact E
theorem done_any (there : Bool) (L : List ByteArray) (c : Change) (lv hv : Value) (w : World) (hL : Rdv w Never lv L) (hh : Rdv w Never hv c.hunks) :
    Calls Tryz.prog 77 #[lv, .bool there, .agg #[.int .i64 c.what, .string c.path, hv]] w fun e w' => DonePost there L c w e w' := done_go there L c.what c.path c.hunks lv hv w hL hh
end Go.Proofs.YtjiaidchcldocaaGreatDoor
namespace Go.Proofs.YtjiaidchcldocaaGreatDoor
open Go.RowKit

set_option maxRecDepth 100000 in
theorem find_cmp (x : File) (p : ByteArray) (lv : Value) (w : World) :
    Calls Tryz.prog 124 #[.agg #[.string x.path, lv], .string p] w fun e w' => e = .returned (.int .i64 (Lib.compareBytes x.path.data.toList p.data.toList)) ∧ Chg Never w w' := by
  go_enter Tryz.func124, Tryz.ntmps124
  go_wp2_with fail
  refine (Tryz.strings_Compare x.path p _).mono ?_
  rintro e w1 ⟨rfl, hw1⟩
  rw [hw1]
  go_wp2_with fail
  go_ret
  exact ⟨rfl, (Chg.refl _ _).alloc _⟩
theorem cmp_less {a b : ByteArray} : (Lib.compareBytes a.data.toList b.data.toList < 0 ↔ less a b = true) ∧ (Lib.compareBytes a.data.toList b.data.toList = 0 ↔ a = b) := by
  obtain ⟨h1, h2⟩ := compare_bl a.data.toList b.data.toList
  refine ⟨?_, ?_⟩
  · rw [h1]; unfold less; rw [Lib.toList_data, Lib.toList_data]
  · rw [h2]
    exact ⟨fun h => ByteArray.ext (Array.toList_inj.1 h), fun h => by rw [h]⟩

/-- what a binary search has told of the places from a to b -/
structure BSt (t : List File) (p : ByteArray) (a b : Nat) : Prop where
  le : a ≤ b
  top : b ≤ t.length
  lo : ∀ q f, q < a → t[q]? = some f → less f.path p = true
  hi : ∀ q f, b ≤ q → t[q]? = some f → less f.path p = false
theorem bst_start (t : List File) (p : ByteArray) : BSt t p 0 t.length :=
  ⟨Nat.zero_le _, Nat.le_refl _, fun q f h => absurd h (Nat.not_lt_zero q), fun q f h hf => by have := (List.getElem?_eq_some_iff.1 hf).1; omega⟩
theorem BSt.up {t : List File} {p : ByteArray} {a b c : Nat} {x : File} (h : BSt t p a b) (hs : Sorted t) (h1 : a ≤ c) (h2 : c < b) (hx : t[c]? = some x) (hl : less x.path p = true) : BSt t p (c + 1) b :=
  ⟨by omega, h.top, fun q f hq hf => by
    by_cases e : q = c
    · subst e; rw [hx] at hf; injection hf with hf; rw [← hf]; exact hl
    · exact less_trans (sorted_mono hs (show q < c by omega) hf hx) hl, h.hi⟩
theorem BSt.down {t : List File} {p : ByteArray} {a b c : Nat} {x : File} (h : BSt t p a b) (hs : Sorted t) (h1 : a ≤ c) (h2 : c < b) (hx : t[c]? = some x) (hl : less x.path p = false) : BSt t p a c :=
  ⟨h1, by have := h.top; omega, h.lo, fun q f hq hf => by
    by_cases e : q = c
    · subst e; rw [hx] at hf; injection hf with hf; rw [← hf]; exact hl
    · have hm := sorted_mono hs (show c < q by omega) hx hf
      cases hb : less f.path p with
      | false => rfl
      | true => have := less_trans hm hb; rw [hl] at this; cases this⟩
theorem BSt.pos {t : List File} {p : ByteArray} {a : Nat} (h : BSt t p a a) : posOf t p = a := pos_unique h.lo (fun f hf => h.hi a f (Nat.le_refl _) hf) h.top

set_option maxHeartbeats 2000000 in
set_option maxRecDepth 100000 in
theorem bs_any (t : List File) (p : ByteArray) (v : Value) (w : World) (h : Rdv w Never v t) (hs : Sorted t) (hl : t.length ≤ 1000000) :
    Calls Tryz.prog 123 #[v, .string p, .func (.func 124) #[] #[]] w fun e w' => e = .returned (.tuple #[.int .i64 (posOf t p), .bool (isAt t p)]) ∧ Chg Never w w' := by
  have HS := Lib.hid hs
  clear hs
  obtain ⟨a, cap, rfl, h1, h2, h3⟩ := rdv_slice h
  unfold maxLen at h2
  go_enter Tryz.func123, Tryz.ntmps123
  go_wp2_with fail
  go_loopw [9, 10] (fun i j wr => ∃ x y : Nat, i = .int .i64 x ∧ j = .int .i64 y ∧ Chg Never w wr ∧ BSt t p x y) (fun i j _ => (intOf j).toNat - (intOf i).toNat)
  case atStart => exact ⟨0, t.length, rfl, rfl, Chg.refl _ _, bst_start t p⟩
  case round =>
    obtain ⟨x, y, rfl, rfl, hc, hB⟩ := hrel
    have hle := hB.le
    have htop := hB.top
    by_cases hlt : x < y
    · obtain ⟨z, hz⟩ : ∃ z, (x + y) / 2 = z := ⟨_, rfl⟩
      have zI : ((x : Int) + y) / 2 = z := by omega
      have hz1 : x ≤ z := by omega
      have hz2 : z < y := by omega
      obtain ⟨f, hf⟩ : ∃ f, t[z]? = some f := ⟨t[z]'(by omega), by simp [show z < t.length by omega]⟩
      obtain ⟨b, off, lv, rfl, _, _, c0, c1, _, _⟩ := elems_file h3 hf
      have c0 := hc.cellNever c0
      have c1 := hc.cellNever c1
      have HX := Lib.hid hf
      clear hf
      cases hq : less f.path p with
      | true =>
        have t1 : decide (Lib.compareBytes f.path.data.toList p.data.toList < 0) = true := decide_eq_true (cmp_less.1.2 hq)
        go_wp2_with fail
        refine (find_cmp f p _ _).mono ?_
        rintro e w2 ⟨rfl, hc2⟩
        have hc2 := hc.trans hc2
        clear c0 c1
        go_wp2_with fail
        go_roundw
        case rel => exact ⟨z + 1, y, by go_num, rfl, hc2, hB.up HS.out hz1 hz2 HX.out hq⟩
        case measure => simp [intOf] <;> omega
      | false =>
        have t1 : decide (Lib.compareBytes f.path.data.toList p.data.toList < 0) = false := decide_eq_false (fun hh => by rw [cmp_less.1.1 hh] at hq; cases hq)
        go_wp2_with fail
        refine (find_cmp f p _ _).mono ?_
        rintro e w2 ⟨rfl, hc2⟩
        have hc2 := hc.trans hc2
        clear c0 c1
        go_wp2_with fail
        go_roundw
        case rel => exact ⟨x, z, rfl, rfl, hc2, hB.down HS.out hz1 hz2 HX.out hq⟩
        case measure => simp [intOf] <;> omega
    · obtain rfl : x = y := by omega
      have HP := Lib.hid hB.pos
      by_cases hxt : x < t.length
      · obtain ⟨f, hf⟩ : ∃ f, t[x]? = some f := ⟨t[x], by simp [hxt]⟩
        obtain ⟨b, off, lv, rfl, _, _, c0, c1, _, _⟩ := elems_file h3 hf
        have c0 := hc.cellNever c0
        have c1 := hc.cellNever c1
        by_cases e : f.path = p
        · have HI : Hid (isAt t p = true) := by unfold Hid isAt; rw [HP.out, hf]; simp [e]
          have t1 : (Lib.compareBytes f.path.data.toList p.data.toList == 0) = true := beq_iff_eq.2 (cmp_less.2.2 e)
          clear hf e
          go_wp2_with fail
          refine (find_cmp f p _ _).mono ?_
          rintro e w2 ⟨rfl, hc2⟩
          have hc2 := hc.trans hc2
          clear c0 c1
          go_wp2_with fail
          go_ret2
          exact ⟨by rw [HP.out, HI.out]; rfl, hc2⟩
        · have HI : Hid (isAt t p = false) := by unfold Hid isAt; rw [HP.out, hf]; simp [e]
          have t1 : (Lib.compareBytes f.path.data.toList p.data.toList == 0) = false := beq_eq_false_iff_ne.2 (fun hh => e (cmp_less.2.1 hh))
          clear hf e
          go_wp2_with fail
          refine (find_cmp f p _ _).mono ?_
          rintro e w2 ⟨rfl, hc2⟩
          have hc2 := hc.trans hc2
          clear c0 c1
          go_wp2_with fail
          go_ret2
          exact ⟨by rw [HP.out, HI.out]; rfl, hc2⟩
      · have HI : Hid (isAt t p = false) := by unfold Hid isAt; rw [HP.out, List.getElem?_eq_none (by omega)]; rfl
        go_wp2_with fail
        go_ret2
        exact ⟨by rw [HP.out, HI.out]; rfl, hc⟩

set_option maxHeartbeats 2000000 in
set_option maxRecDepth 100000 in
theorem treefind_any (t : List File) (p : ByteArray) (v : Value) (w : World) (h : Rdv w Never v t) (hs : Sorted t) (hl : t.length ≤ 1000000) :
    Calls Tryz.prog 76 #[v, .string p] w fun e w' => e = .returned (.tuple #[.int .i64 (posOf t p), .bool (isAt t p)]) ∧ Chg Never w w' := by
  obtain ⟨a, cap, rfl, h1, h2, h3⟩ := rdv_slice h
  unfold maxLen at h2
  go_enter Tryz.func76, Tryz.ntmps76
  go_wp2_with fail
  refine (bs_any t p _ _ h hs hl).mono ?_
  rintro e w1 ⟨rfl, hc⟩
  go_wp2_with fail
  go_ret2
  exact ⟨rfl, hc⟩
end Go.Proofs.YtjiaidchcldocaaGreatDoor
