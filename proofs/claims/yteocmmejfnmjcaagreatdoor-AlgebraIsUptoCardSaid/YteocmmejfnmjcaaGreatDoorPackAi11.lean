/-
  PARTS: THE WALKS of tree.Find (a binary search).; A BOX OF TWO CELLS, and of three (Blk3: XTurn). No program in sight.; THE WALKS of tree.Copy, and of slices.Concat of files.; WHAT THE DOCUMENT'S WAY BETWEEN TWO TREES NEEDS, in plain Lean: places and lookups, the merged list's length, what Make answers of valid lines.; THE WALK of patch.Apply.; THE WALK of the document's ApplyOf.; THE WALKS of handstitchsame.Series and of the document's Behind.
-/
import Derived.Test.YteocmmejfnmjcaaGreatDoorPackAi5
import Derived.Test.YteocmmejfnmjcaaGreatDoorPackAi2
import Derived.Test.YteocmmejfnmjcaaGreatDoorPackAi8
import Derived.Test.YteocmmejfnmjcaaGreatDoorPackAi6
import Derived.Test.YteocmmejfnmjcaaGreatDoorPackAi4
import Derived.Test.YteocmmejfnmjcaaGreatDoorPackAi10
import Derived.Test.YteocmmejfnmjcaaGreatDoorPackAi9
import Derived.StillTailTactics
namespace Go.Proofs.YteocmmejfnmjcaaGreatDoor
open Go.RowKit

set_option maxRecDepth 100000 in
theorem find_cmp (x : File) (p : ByteArray) (lv : Value) (w : World) :
    Calls Tryz.prog 65 #[.agg #[.string x.path, lv], .string p] w fun e w' => e = .returned (.int .i64 (Lib.compareBytes x.path.data.toList p.data.toList)) ∧ Chg Never w w' := by
  go_enter Tryz.func65, Tryz.ntmps65
  go_wp2_with fail
  refine (Tryz.strings_Compare x.path p _).mono ?_
  rintro e w1 ⟨rfl, hw1⟩
  rw [hw1]
  go_wp2_with fail
  go_ret
  exact ⟨rfl, (Chg.refl _ _).alloc _⟩
theorem cmp_less {a b : ByteArray} : (Lib.compareBytes a.data.toList b.data.toList < 0 ↔ less a b = true) ∧ (Lib.compareBytes a.data.toList b.data.toList = 0 ↔ a = b) := by
  obtain ⟨h1, h2⟩ := compare_bl a.data.toList b.data.toList
  refine ⟨?_, ?_⟩
  · rw [h1]; unfold less; rw [Lib.toList_data, Lib.toList_data]
  · rw [h2]
    exact ⟨fun h => ByteArray.ext (Array.toList_inj.1 h), fun h => by rw [h]⟩

/-- what a binary search has told of the places from a to b -/
structure BSt (t : List File) (p : ByteArray) (a b : Nat) : Prop where
  le : a ≤ b
  top : b ≤ t.length
  lo : ∀ q f, q < a → t[q]? = some f → less f.path p = true
  hi : ∀ q f, b ≤ q → t[q]? = some f → less f.path p = false
theorem bst_start (t : List File) (p : ByteArray) : BSt t p 0 t.length :=
  ⟨Nat.zero_le _, Nat.le_refl _, fun q f h => absurd h (Nat.not_lt_zero q), fun q f h hf => by have := (List.getElem?_eq_some_iff.1 hf).1; omega⟩
theorem BSt.up {t : List File} {p : ByteArray} {a b c : Nat} {x : File} (h : BSt t p a b) (hs : Sorted t) (h1 : a ≤ c) (h2 : c < b) (hx : t[c]? = some x) (hl : less x.path p = true) : BSt t p (c + 1) b :=
  ⟨by omega, h.top, fun q f hq hf => by
    by_cases e : q = c
    · subst e; rw [hx] at hf; injection hf with hf; rw [← hf]; exact hl
    · exact less_trans (sorted_mono hs (show q < c by omega) hf hx) hl, h.hi⟩
theorem BSt.down {t : List File} {p : ByteArray} {a b c : Nat} {x : File} (h : BSt t p a b) (hs : Sorted t) (h1 : a ≤ c) (h2 : c < b) (hx : t[c]? = some x) (hl : less x.path p = false) : BSt t p a c :=
  ⟨h1, by have := h.top; omega, h.lo, fun q f hq hf => by
    by_cases e : q = c
    · subst e; rw [hx] at hf; injection hf with hf; rw [← hf]; exact hl
    · have hm := sorted_mono hs (show c < q by omega) hx hf
      cases hb : less f.path p with
      | false => rfl
      | true => have := less_trans hm hb; rw [hl] at this; cases this⟩
theorem BSt.pos {t : List File} {p : ByteArray} {a : Nat} (h : BSt t p a a) : posOf t p = a := pos_unique h.lo (fun f hf => h.hi a f (Nat.le_refl _) hf) h.top

set_option maxHeartbeats 2000000 in
set_option maxRecDepth 100000 in
theorem bs_any (t : List File) (p : ByteArray) (v : Value) (w : World) (h : Rdv w Never v t) (hs : Sorted t) (hl : t.length ≤ 1000000) :
    Calls Tryz.prog 64 #[v, .string p, .func (.func 65) #[] #[]] w fun e w' => e = .returned (.tuple #[.int .i64 (posOf t p), .bool (isAt t p)]) ∧ Chg Never w w' := by
  have HS := Lib.hid hs
  clear hs
  obtain ⟨a, cap, rfl, h1, h2, h3⟩ := rdv_slice h
  unfold maxLen at h2
  go_enter Tryz.func64, Tryz.ntmps64
  go_wp2_with fail
  go_loopw [9, 10] (fun i j wr => ∃ x y : Nat, i = .int .i64 x ∧ j = .int .i64 y ∧ Chg Never w wr ∧ BSt t p x y) (fun i j _ => (intOf j).toNat - (intOf i).toNat)
  case atStart => exact ⟨0, t.length, rfl, rfl, Chg.refl _ _, bst_start t p⟩
  case round =>
    obtain ⟨x, y, rfl, rfl, hc, hB⟩ := hrel
    have hle := hB.le
    have htop := hB.top
    by_cases hlt : x < y
    · obtain ⟨z, hz⟩ : ∃ z, (x + y) / 2 = z := ⟨_, rfl⟩
      have zI : ((x : Int) + y) / 2 = z := by omega
      have hz1 : x ≤ z := by omega
      have hz2 : z < y := by omega
      obtain ⟨f, hf⟩ : ∃ f, t[z]? = some f := ⟨t[z]'(by omega), by simp [show z < t.length by omega]⟩
      obtain ⟨b, off, lv, rfl, _, _, c0, c1, _, _⟩ := elems_file h3 hf
      have c0 := hc.cellNever c0
      have c1 := hc.cellNever c1
      have HX := Lib.hid hf
      clear hf
      cases hq : less f.path p with
      | true =>
        have t1 : decide (Lib.compareBytes f.path.data.toList p.data.toList < 0) = true := decide_eq_true (cmp_less.1.2 hq)
        go_wp2_with fail
        refine (find_cmp f p _ _).mono ?_
        rintro e w2 ⟨rfl, hc2⟩
        have hc2 := hc.trans hc2
        clear c0 c1
        go_wp2_with fail
        go_roundw
        case rel => exact ⟨z + 1, y, by go_num, rfl, hc2, hB.up HS.out hz1 hz2 HX.out hq⟩
        case measure => simp [intOf] <;> omega
      | false =>
        have t1 : decide (Lib.compareBytes f.path.data.toList p.data.toList < 0) = false := decide_eq_false (fun hh => by rw [cmp_less.1.1 hh] at hq; cases hq)
        go_wp2_with fail
        refine (find_cmp f p _ _).mono ?_
        rintro e w2 ⟨rfl, hc2⟩
        have hc2 := hc.trans hc2
        clear c0 c1
        go_wp2_with fail
        go_roundw
        case rel => exact ⟨x, z, rfl, rfl, hc2, hB.down HS.out hz1 hz2 HX.out hq⟩
        case measure => simp [intOf] <;> omega
    · obtain rfl : x = y := by omega
      have HP := Lib.hid hB.pos
      by_cases hxt : x < t.length
      · obtain ⟨f, hf⟩ : ∃ f, t[x]? = some f := ⟨t[x], by simp [hxt]⟩
        obtain ⟨b, off, lv, rfl, _, _, c0, c1, _, _⟩ := elems_file h3 hf
        have c0 := hc.cellNever c0
        have c1 := hc.cellNever c1
        by_cases e : f.path = p
        · have HI : Hid (isAt t p = true) := by unfold Hid isAt; rw [HP.out, hf]; simp [e]
          have t1 : (Lib.compareBytes f.path.data.toList p.data.toList == 0) = true := beq_iff_eq.2 (cmp_less.2.2 e)
          clear hf e
          go_wp2_with fail
          refine (find_cmp f p _ _).mono ?_
          rintro e w2 ⟨rfl, hc2⟩
          have hc2 := hc.trans hc2
          clear c0 c1
          go_wp2_with fail
          go_ret2
          exact ⟨by rw [HP.out, HI.out]; rfl, hc2⟩
        · have HI : Hid (isAt t p = false) := by unfold Hid isAt; rw [HP.out, hf]; simp [e]
          have t1 : (Lib.compareBytes f.path.data.toList p.data.toList == 0) = false := beq_eq_false_iff_ne.2 (fun hh => e (cmp_less.2.1 hh))
          clear hf e
          go_wp2_with fail
          refine (find_cmp f p _ _).mono ?_
          rintro e w2 ⟨rfl, hc2⟩
          have hc2 := hc.trans hc2
          clear c0 c1
          go_wp2_with fail
          go_ret2
          exact ⟨by rw [HP.out, HI.out]; rfl, hc2⟩
      · have HI : Hid (isAt t p = false) := by unfold Hid isAt; rw [HP.out, List.getElem?_eq_none (by omega)]; rfl
        go_wp2_with fail
        go_ret2
        exact ⟨by rw [HP.out, HI.out]; rfl, hc⟩

set_option maxHeartbeats 2000000 in
set_option maxRecDepth 100000 in
theorem find_any (t : List File) (p : ByteArray) (v : Value) (w : World) (h : Rdv w Never v t) (hs : Sorted t) (hl : t.length ≤ 1000000) :
    Calls Tryz.prog 38 #[v, .string p] w fun e w' => e = .returned (.tuple #[.int .i64 (posOf t p), .bool (isAt t p)]) ∧ Chg Never w w' := by
  obtain ⟨a, cap, rfl, h1, h2, h3⟩ := rdv_slice h
  unfold maxLen at h2
  go_enter Tryz.func38, Tryz.ntmps38
  go_wp2_with fail
  refine (bs_any t p _ _ h hs hl).mono ?_
  rintro e w1 ⟨rfl, hc⟩
  go_wp2_with fail
  go_ret2
  exact ⟨rfl, hc⟩
end Go.Proofs.YteocmmejfnmjcaaGreatDoor
namespace Go.Proofs.YteocmmejfnmjcaaGreatDoor
open Go.RowKit

/-- block B holds two cells of its own -/
def Blk2 (w : World) (B : Nat) (t : TypeId) (x y : Value) : Prop := w.heap[B]? = some (.cells #[x, y] t (0, 0))
theorem Blk2.cell {w : World} {B : Nat} {t : TypeId} {x y : Value} (h : Blk2 w B t x y) : w.cell? ⟨B, 0, none⟩ = some x ∧ w.cell? ⟨B, 1, none⟩ = some y := by
  unfold Blk2 at h
  refine ⟨?_, ?_⟩ <;> (unfold World.cell?; rw [h]; rfl)
theorem Blk2.free {w : World} {B : Nat} {t : TypeId} {x y : Value} (h : Blk2 w B t x y) (j : Nat) : w.frozen? ⟨B, j, none⟩ = false := by
  unfold Blk2 at h
  unfold World.frozen?; rw [h]; simp
theorem Blk2.lt {w : World} {B : Nat} {t : TypeId} {x y : Value} (h : Blk2 w B t x y) : B < w.heap.size := (Array.getElem?_eq_some_iff.1 h).1
theorem Blk2.keep {w w' : World} {B : Nat} {t : TypeId} {x y : Value} {O : Nat → Prop} (h : Blk2 w B t x y) (hc : Chg O w w') (hB : ¬ O B) : Blk2 w' B t x y := by
  unfold Blk2 at *
  rw [hc.block B (Array.getElem?_eq_some_iff.1 h).1 hB]
  exact h
theorem Blk2.set1 {w : World} {B : Nat} {t : TypeId} {x y : Value} (h : Blk2 w B t x y) (u : Value) : Blk2 (w.setCell ⟨B, 1, none⟩ u) B t x u := by
  unfold Blk2 at *
  simp [World.setCell, Array.getElem?_modify, h]
theorem Blk2.new (w : World) (t : TypeId) (x y : Value) : Blk2 (w.alloc (.cells #[x, y] t)) w.heap.size t x y := heap_alloc_new _ _
end Go.Proofs.YteocmmejfnmjcaaGreatDoor
namespace Go.Proofs.YteocmmejfnmjcaaGreatDoor
open Go.RowKit

theorem take_snoc {α : Type} {l : List α} {k : Nat} {x : α} (hx : l[k]? = some x) : l.take (k + 1) = l.take k ++ [x] := by rw [List.take_add_one, hx]; rfl
set_option maxHeartbeats 2000000 in
set_option maxRecDepth 100000 in
theorem tree_copy_any (t : List File) (v : Value) (w : World) (h : Rdv w Never v t) (hl : t.length ≤ 1000000) (hll : ∀ f ∈ t, f.lines.length ≤ 1000000) :
    Calls Tryz.prog 37 #[v] w fun e w' => ∃ r, e = .returned r ∧ Chg Never w w' ∧ Own 76 w' (Old w.heap.size) r t := by
  obtain ⟨a, cap, rfl, h1, h2, h3⟩ := rdv_slice h
  unfold maxLen at h2
  go_enter Tryz.func37, Tryz.ntmps37
  go_wp2_with fail
  go_loopw [3, 8] (fun o i wr => ∃ k : Nat, k ≤ t.length ∧ i = .int .i64 k ∧ Chg Never w wr ∧ Own 76 wr (Old w.heap.size) o (t.take k)) (fun _ i _ => t.length - (intOf i).toNat)
  case atStart => exact ⟨0, Nat.zero_le _, rfl, Chg.refl _ _, own_nil _ _ _⟩
  case round =>
    obtain ⟨k, hk, rfl, hc, hown⟩ := hrel
    by_cases hlt : k < t.length
    · obtain ⟨x, hx⟩ : ∃ x, t[k]? = some x := ⟨t[k], by simp [hlt]⟩
      obtain ⟨b, off, lv, rfl, _, _, c0, c1, hps, hlv⟩ := elems_file h3 hx
      obtain ⟨la, lcap, rfl, _, _, _⟩ := rdv_slice hlv
      have hxl := hll x (List.mem_of_getElem? hx)
      have c0 := hc.cellNever c0
      have c1 := hc.cellNever c1
      have HT := Lib.hid (take_snoc hx)
      have htl : (t.take k).length ≤ 1000000000 := Nat.le_trans (List.length_take_le _ _) (by omega)
      have hsz := hc.size
      have holt := own_block_lt hown
      have hA : Chg Never wr (wr.alloc (.cells #[.string x.path, .slice la x.lines.length lcap] 76)) := (Chg.refl Never wr).alloc _
      have hBX := Blk2.new wr 76 (.string x.path) (.slice la x.lines.length lcap)
      have hownA := hown.keep (O'' := fun j => Old w.heap.size j ∨ j = wr.heap.size) hA (fun _ _ hh => hh.elim) (by rintro j hj (hh | rfl); exact hh; exact absurd hj (Nat.lt_irrefl _))
      have hlvA := (hlv.never hc).never hA
      have hcA := hc.trans hA
      have hBlt := hBX.lt
      obtain ⟨b0, b1⟩ := hBX.cell
      clear hx h3 h hown hlv
      go_wp2_with fail
      generalize wr.alloc (.cells #[.string x.path, .slice la x.lines.length lcap] 76) = w3 at hBX hownA hlvA hcA hBlt b0 b1 hA ⊢
      generalize hBe : wr.heap.size = B at hBX hownA hBlt b0 b1 hsz holt ⊢
      clear hc hA hBe
      refine (clone_str Never x.lines _ _ hlvA hxl).mono ?_
      rintro e w4 ⟨r4, rfl, hc4, hown4⟩
      obtain ⟨ra, rn, rc, rfl⟩ := own_isSlice hown4
      have hB4 := hBX.keep hc4 (fun h => h)
      have b3 := hB4.free
      have hB5 := hB4.set1 (.slice ra rn rc)
      obtain ⟨b0, b1⟩ := hB4.cell
      obtain ⟨k0, k1⟩ := hB5.cell
      have hS : Chg (fun j => j = B) w4 (w4.setCell ⟨B, 1, none⟩ (.slice ra rn rc)) := (Chg.refl (fun j => j = B) w4).setCell (p := ⟨B, 1, none⟩) (.inr rfl) _
      have hown5 := (hownA.never hc4).keep (O'' := Old w.heap.size) hS (fun j _ hh => .inr hh) (fun j _ hh => .inl hh)
      have hr := (hown4.keep (O'' := Old w3.heap.size) hS (fun j _ hh => by subst hh; exact hBlt) (fun _ _ hh => hh)).rdv
      have hc5 := (hcA.trans hc4).setCell (p := ⟨B, 1, none⟩) (.inl hsz) (.slice ra rn rc)
      have hszw := hcA.size
      have hy : Dat.rd (w4.setCell ⟨B, 1, none⟩ (.slice ra rn rc)) (fun j => Old w.heap.size j ∨ u3.ownBlock = some j) [.string x.path, .slice ra rn rc] x := ⟨_, rfl, hps, hr.sub (fun j _ hh => by
        rcases hh with hh | hh
        · exact Nat.lt_of_lt_of_le hh hszw
        · exact Nat.lt_trans (holt j hh) hBlt)⟩
      clear hr hS hB4 hBX hown4 hc4 hownA hcA hlvA hB5
      go_wp2_with (at_builtin; refine wpList_push (by rfl) _ _ 22 (by rfl) elemOk_file (O := Old w.heap.size) (l := t.take k) (y := x) (by rfl) (by rfl) (by simp) hown5 hy (old_lt hc5) htl ?_; intro v' w6 hown6 hc6 _)
      have hc7 := own_step hc5 hown5 hc6
      clear hc6 hown5 hy
      go_wp2_with fail
      go_roundw
      case rel => exact ⟨k + 1, by omega, by go_num, hc7, by rw [HT.out]; exact hown6⟩
      case measure => simp [intOf] <;> omega
    · rw [List.take_of_length_le (by omega)] at hown
      go_wp2_with fail
      go_ret
      exact ⟨_, rfl, hc, hown⟩
end Go.Proofs.YteocmmejfnmjcaaGreatDoor
namespace Go.Proofs.YteocmmejfnmjcaaGreatDoor

theorem place_cons (x : File) (r : List File) (p : ByteArray) : placeOf (x :: r) p = if x.path = p then some 0 else (placeOf r p).map (· + 1) := by
  unfold placeOf
  rw [List.findIdx?_cons]
  by_cases h : x.path = p
  · rw [if_pos h, decide_eq_true h]; rfl
  · rw [if_neg h, decide_eq_false h]; rfl
/-- a place and a lookup are the same -/
theorem place_look : ∀ (t : List File) (p : ByteArray), (placeOf t p = none ∧ look t p = none) ∨ ∃ i f, placeOf t p = some i ∧ t[i]? = some f ∧ look t p = some f.lines
  | [], p => .inl ⟨rfl, rfl⟩
  | x :: r, p => by
    rw [place_cons, look_cons]
    by_cases h : x.path = p
    · exact .inr ⟨0, x, if_pos h, rfl, if_pos h⟩
    · rw [if_neg h, if_neg h]
      rcases place_look r p with ⟨h1, h2⟩ | ⟨i, f, h1, h2, h3⟩
      · exact .inl ⟨by rw [h1]; rfl, h2⟩
      · exact .inr ⟨i + 1, f, by rw [h1]; rfl, by rw [List.getElem?_cons_succ]; exact h2, h3⟩
theorem placeI_look (t : List File) (p : ByteArray) : (placeI t p = -1 ∧ look t p = none) ∨ ∃ (i : Nat) (f : File), placeI t p = i ∧ t[i]? = some f ∧ look t p = some f.lines := by
  rcases place_look t p with ⟨h1, h2⟩ | ⟨i, f, h1, h2, h3⟩
  · exact .inl ⟨by unfold placeI; rw [h1], h2⟩
  · exact .inr ⟨i, f, by unfold placeI; rw [h1], h2, h3⟩
theorem allOf_len : ∀ (b a : List File), Sorted a → (allOf a b).length ≤ a.length + b.length
  | [], a, _ => Nat.le_refl _
  | x :: r, a, h => by
    have := allOf_len r (putAt a x) (putAt_sorted h x)
    have e := putAt_len h x
    have : (putAt a x).length ≤ a.length + 1 := by rw [e]; split <;> omega
    show (allOf (putAt a x) r).length ≤ _
    rw [List.length_cons]; omega
theorem all_step (a b : List File) {k : Nat} {x : File} (h : b[k]? = some x) : allOf a (b.take (k + 1)) = putAt (allOf a (b.take k)) x := by
  unfold allOf
  rw [List.take_add_one, h, List.foldl_append]; rfl
theorem sorted_take {b : List File} (h : Sorted b) (k : Nat) : Sorted (b.take k) := List.Pairwise.sublist (List.take_sublist _ _) h
/-- each of all is in one of both -/
theorem all_known {a b : List File} (h : Sorted a) (g : Sorted b) {f : File} (hf : f ∈ allOf a b) : ¬ (look a f.path = none ∧ look b f.path = none) := by
  rintro ⟨h1, h2⟩
  have e := look_mem (all_sorted b a h) hf
  rw [all_look _ b a h g, h1, h2] at e
  cases e
theorem flat_take {β : Type} {g : File → List β} {l : List File} {k : Nat} {x : File} (h : l[k]? = some x) : (l.take (k + 1)).flatMap g = (l.take k).flatMap g ++ g x := by
  rw [List.take_add_one, h, List.flatMap_append]; simp
theorem fileFault_lines {f : File} (h : fileFault f = 0) : linesFault f.lines = 0 := by
  unfold fileFault at h
  by_cases e : pathFault f.path = 0
  · rwa [if_pos e] at h
  · rw [if_neg e] at h; exact absurd h e
theorem checked_zero {x y : List ByteArray} (h : linesFault x = 0) (g : linesFault y = 0) : checkedFault x y = 0 := by unfold checkedFault; rw [if_pos h]; exact g
/-- of valid lines Make tells no fault -/
theorem make_valid {x y : List ByteArray} {n : Int} (h : linesFault x = 0) (g : linesFault y = 0) (n0 : 0 ≤ n) (n1 : n ≤ 1000) : makeFault x y n = 0 ∧ makeR x y n = cutOf (script x y) n := by
  have hc := checked_zero h g
  have hs := script_valid hc
  have e1 : (oldOf (script x y)).length = oldN (script x y) := rfl
  have e2 : (newOf (script x y)).length = newN (script x y) := rfl
  rw [script_old] at e1
  rw [script_new] at e2
  have l1 := linesFault_len h
  have l2 := linesFault_len g
  have hcut : cutFault (script x y) n = 0 := by
    unfold cutFault
    rw [if_neg (by rw [hs]; decide), if_neg (by omega), if_neg (by omega)]
  exact ⟨by unfold makeFault; rw [if_neg (by rw [hc]; decide)]; exact hcut, by unfold makeR cutR; rw [if_pos hc, if_pos hcut]⟩
/-! ### what lies between, step by step -/
theorem diffL_take {n : Int} {x : File} {a b : List File} (h : b = [] ∨ ∃ y r, b = y :: r ∧ less x.path y.path = true) : diffL n (x :: a) b = ⟨3, x.path, wholeR x.lines 45⟩ :: diffL n a b := by
  rcases h with rfl | ⟨y, r, rfl, h⟩
  · rw [diffL]
  · rw [diffL, if_pos h]
theorem diffL_put {n : Int} {y : File} {a b : List File} (h : a = [] ∨ ∃ x r, a = x :: r ∧ ¬ less x.path y.path = true ∧ less y.path x.path = true) : diffL n a (y :: b) = ⟨2, y.path, wholeR y.lines 43⟩ :: diffL n a b := by
  rcases h with rfl | ⟨x, r, rfl, h, g⟩
  · rw [diffL]
  · rw [diffL, if_neg h, if_pos g]
theorem diffL_both {n : Int} {x y : File} {a b : List File} (h : ¬ less x.path y.path = true) (g : ¬ less y.path x.path = true) : diffL n (x :: a) (y :: b) = chg n x.path (some x.lines) (some y.lines) ++ diffL n a b := by
  rw [diffL, if_neg h, if_neg g]
theorem diffL_nil (n : Int) : diffL n [] [] = [] := by rw [diffL]
theorem chg_none {n : Int} {p : ByteArray} {x y : List ByteArray} (h : cutOf (script x y) n = []) : chg n p (some x) (some y) = [] := if_pos h
theorem chg_some {n : Int} {p : ByteArray} {x y : List ByteArray} (h : cutOf (script x y) n ≠ []) : chg n p (some x) (some y) = [⟨1, p, cutOf (script x y) n⟩] := if_neg h
end Go.Proofs.YteocmmejfnmjcaaGreatDoor
namespace Go.Proofs.YteocmmejfnmjcaaGreatDoor
open Go.RowKit

theorem apply_step {T : List File} {p : List Change} {k : Nat} {c : Change} (hd : p.drop k = c :: p.drop (k + 1)) (hz : (stepOf (look T c.path) c).2 = 0) : applyGo k T (p.drop k) = applyGo (k + 1) (setAt T c.path (stepOf (look T c.path) c).1) (p.drop (k + 1)) := by
  rw [hd, applyGo, if_neg (by rw [hz]; decide)]
theorem apply_bad {T : List File} {p : List Change} {k : Nat} {c : Change} (hd : p.drop k = c :: p.drop (k + 1)) (hz : (stepOf (look T c.path) c).2 ≠ 0) : applyGo k T (p.drop k) = ([], k, (stepOf (look T c.path) c).2) := by
  rw [hd, applyGo, if_pos hz]
theorem apply_end {T : List File} {p : List Change} : applyGo p.length T (p.drop p.length) = (T, 0, 0) := by rw [List.drop_length]; rfl
theorem find_is {T : List File} (hs : Sorted T) {p : ByteArray} (h : isAt T p = true) : ∃ f, T[posOf T p]? = some f ∧ f.path = p ∧ look T p = some f.lines ∧ posOf T p < T.length := by
  unfold isAt at h
  cases hf : T[posOf T p]? with
  | none => rw [hf] at h; cases h
  | some f =>
    rw [hf, Option.any_some] at h
    have hp := of_decide_eq_true h
    have := look_mem hs (List.mem_of_getElem? hf)
    rw [hp] at this
    exact ⟨f, rfl, hp, this, (List.getElem?_eq_some_iff.1 hf).1⟩
theorem find_not {T : List File} (hs : Sorted T) {p : ByteArray} (h : isAt T p = false) : look T p = none ∧ posOf T p ≤ T.length := by
  obtain ⟨A, C, h1, h2, _, _, h5, h6⟩ := tree_split hs p
  rcases h6 with ⟨h6, _⟩ | ⟨_, rfl⟩
  · rw [h6] at h; cases h
  · refine ⟨look_none fun x hx => ?_, by rw [h5, List.length_append]; omega⟩
    rcases List.mem_append.1 hx with hx | hx
    · exact less_ne (h1 x hx)
    · exact (less_ne (h2 x hx)).symm
theorem set_put {T : List File} {p : ByteArray} {l : List ByteArray} (h : isAt T p = false) : setAt T p (some l) = insAt T (posOf T p) ⟨p, l⟩ := by
  show putAt T ⟨p, l⟩ = _
  unfold putAt insAt
  rw [if_neg (by rw [h]; decide)]
theorem set_edit {T : List File} {p : ByteArray} {l : List ByteArray} (h : isAt T p = true) (hl : posOf T p < T.length) : setAt T p (some l) = insAt (dropAt T (posOf T p)) (posOf T p) ⟨p, l⟩ := by
  show putAt T ⟨p, l⟩ = _
  unfold putAt insAt dropAt
  have e : (T.take (posOf T p)).length = posOf T p := by rw [List.length_take]; omega
  rw [if_pos h]
  show _ = (T.take (posOf T p) ++ T.drop (posOf T p + 1)).take (posOf T p) ++ ⟨p, l⟩ :: (T.take (posOf T p) ++ T.drop (posOf T p + 1)).drop (posOf T p)
  congr 1
  · conv => rhs; arg 1; rw [← e]
    rw [List.take_left]
  · congr 1
    conv => rhs; arg 1; rw [← e]
    rw [List.drop_left]
theorem ins_len {T : List File} {i : Nat} {f : File} (h : i ≤ T.length) : (insAt T i f).length = T.length + 1 := by unfold insAt; rw [List.length_append, List.length_take, List.length_cons, List.length_drop]; omega
theorem drop_len {T : List File} {i : Nat} (h : i < T.length) : (dropAt T i).length = T.length - 1 := by unfold dropAt; rw [List.length_append, List.length_take, List.length_drop]; omega
theorem done_ok {there : Bool} {L : List ByteArray} {c : Change} (z : (doneR there L c).2.2 = 0) : (c.what = 2 → there = false) ∧ (c.what ≠ 2 → there = true) ∧ (doneR there L c).2.1 = decide (c.what ≠ 3) := by
  unfold doneR at z ⊢
  by_cases h1 : c.what = 2 ∧ there = true
  · rw [if_pos h1] at z; cases z
  · rw [if_neg h1] at z ⊢
    by_cases h2 : c.what ≠ 2 ∧ there = false
    · rw [if_pos h2] at z; cases z
    · rw [if_neg h2] at z ⊢
      by_cases h3 : (strict L c.hunks).2.2 ≠ 0
      · rw [if_pos h3] at z; exact absurd z h3
      · rw [if_neg h3] at z ⊢
        by_cases h4 : c.what = 3 ∧ (strict L c.hunks).1 ≠ []
        · rw [if_pos h4] at z; cases z
        · rw [if_neg h4]
          refine ⟨fun e => ?_, fun e => ?_, rfl⟩
          · cases there with
            | false => rfl
            | true => exact absurd ⟨e, rfl⟩ h1
          · cases there with
            | true => rfl
            | false => exact absurd ⟨e, rfl⟩ h2
theorem applyR_tree {t : List File} {p : List Change} (h : (treeFault t).2 ≠ 0) : applyR t p = ([], 0, (treeFault t).2) := if_pos h
theorem applyR_patch {t : List File} {p : List Change} (h : (treeFault t).2 = 0) (g : (patchFault p).2 ≠ 0) : applyR t p = ([], (patchFault p).1, (patchFault p).2) := by unfold applyR; rw [if_neg (by rw [h]; decide), if_pos g]
theorem applyR_go {t : List File} {p : List Change} (h : (treeFault t).2 = 0) (g : (patchFault p).2 = 0) {r : List File} {k : Nat} {e : Int} (x : applyGo 0 t p = (r, k, e)) : applyR t p = if e ≠ 0 then (r, k, e) else if 8 < r.length then ([], 0, 3) else (r, 0, 0) := by
  unfold applyR; rw [if_neg (by rw [h]; decide), if_neg (by rw [g]; decide), x]
def ApplyPost (t : List File) (p : List Change) (w : World) (e : Ending) (w' : World) : Prop := ∃ r, e = .returned (.tuple #[r, .int .i64 (applyR t p).2.1, errV (applyR t p).2.2]) ∧ Chg Never w w' ∧ Rdv w' Never r (applyR t p).1
theorem applyPost_bad {t : List File} {p : List Change} {k : Nat} {e : Int} {w w' : World} (h : applyR t p = ([], k, e)) (hc : Chg Never w w') : ApplyPost t p w (.returned (.tuple #[.slice none 0 0, .int .i64 k, errV e])) w' :=
  ⟨_, by rw [h], hc, by rw [h]; exact rdv_nil _ _⟩
theorem applyPost_ok {t R : List File} {p : List Change} {w w' : World} {r : Value} (h : applyR t p = (R, 0, 0)) (hc : Chg Never w w') (hr : Rdv w' Never r R) : ApplyPost t p w (.returned (.tuple #[r, .int .i64 0, .nilIface])) w' :=
  ⟨r, by rw [h]; rfl, hc, by rw [h]; exact hr⟩
theorem own_weak {α : Type} [Dat α] {e : TypeId} {w0 w w' : World} {v : Value} {l : List α} (h : Own e w' (Old w.heap.size) v l) (hc : Chg Never w0 w) (hc' : Chg Never w w') : OwnN e w0 w' v l :=
  ⟨h.keep (O'' := Never) (Chg.refl Never w') (fun _ _ h => h.elim) (fun _ _ h => h.elim), fun k hk => by
    obtain ⟨_, _, q, _⟩ := h
    have := q k hk
    have hs := hc.size
    unfold Old at this
    omega, hc.trans hc'⟩
set_option maxHeartbeats 4000000 in
set_option maxRecDepth 100000 in
theorem apply_any (t : List File) (p : List Change) (vt vp : Value) (w : World) (ht : Rdv w Never vt t) (hp : Rdv w Never vp p) (m : Int) (hm : w.cell? ⟨1, 0, none⟩ = some (.int .i64 m)) :
    Calls Tryz.prog 12 #[vt, vp] w fun e w' => ApplyPost t p w e w' := by
  obtain ⟨ta, tcap, rfl, _, _, _⟩ := rdv_slice ht
  obtain ⟨pa, pcap, rfl, p1, p2, _⟩ := rdv_slice hp
  unfold maxLen at p2
  by_cases z : (treeFault t).2 = 0
  · have Z := Lib.hid z
    by_cases y : (patchFault p).2 = 0
    · have Y := Lib.hid y
      have t8 := (treeFault_zero z).1
      have tl := (treeFault_zero z).2.1
      have tsrt := Lib.hid (treeFault_zero z).2.2.1
      have pl := (patch_of y).1
      have tl60 : ∀ f ∈ t, f.lines.length ≤ 1000000 := fun f hf => by
        have := linesFault_len (fileFault_lines (tl f hf))
        omega
      clear z y tl
      go_enter Tryz.func12, Tryz.ntmps12
      go_wp2_with fail
      refine (tree_check_any t _ _ ht m hm).mono ?_
      rintro e w1 ⟨rfl, hw⟩
      rw [Z.out, errV_zero]
      go_wp2_with fail
      refine (patch_check_any p _ _ (hp.never hw) m (hw.cellNever hm)).mono ?_
      rintro e w2 ⟨rfl, hc2⟩
      have hw := hw.trans hc2
      clear hc2
      rw [Y.out, errV_zero]
      go_wp2_with fail
      refine (tree_copy_any t _ _ (ht.never hw) (by omega) tl60).mono ?_
      rintro e w3 ⟨r3, rfl, hc3, hown⟩
      have hn0 := own_weak hown hw hc3
      clear hown hc3 hw tl60
      go_wp2_with fail
      go_loopw [11, 40] (fun v i wr => ∃ (k : Nat) (T : List File), k ≤ p.length ∧ i = .int .i64 k ∧ OwnN 76 w wr v T ∧ Hid (Sorted T) ∧ T.length ≤ 8 + k ∧ Hid (applyGo k T (p.drop k) = applyGo 0 t p)) (fun _ i _ => p.length - (intOf i).toNat)
      case atStart => exact ⟨0, t, Nat.zero_le _, rfl, hn0, tsrt, by omega, rfl⟩
      case round =>
        clear hn0
        rename World => wr
        obtain ⟨k, T, hk, rfl, hn, hS, hTl, hG⟩ := hrel
        obtain ⟨oa, ocap, rfl, o1, o2, o3⟩ := rdv_slice hn.own.rdv
        unfold maxLen at o2
        have hT : T.length ≤ 1000000 := by omega
        by_cases hlt : k < p.length
        · obtain ⟨c, hx⟩ : ∃ c, p[k]? = some c := ⟨p[k], by simp [hlt]⟩
          obtain ⟨_, _, hpa, _, _, p3⟩ := rdv_slice hp
          injection hpa with hpa1 hpa2 hpa3
          subst hpa1
          clear hpa2 hpa3
          obtain ⟨pb, po, hv, rfl, _, _, c0, c1, c2, hpc, hhv⟩ := elems_change p3 hx
          obtain ⟨ha, hcap, rfl, _, _, _⟩ := rdv_slice hhv
          have hhv := Lib.hid hhv
          have c0 := hn.chg.cellNever c0
          have c1 := hn.chg.cellNever c1
          have c2 := hn.chg.cellNever c2
          have HD := Lib.hid (drop_eq hx)
          obtain ⟨hA, d0, d1, d2⟩ := box1_change wr 36 c.what c.path (.slice ha c.hunks.length hcap) _ rfl
          have DS := Lib.hid (done_step (look T c.path) c)
          clear hx p3
          cases hi : isAt T c.path with
          | true =>
            obtain ⟨f, hf, hfp, hlk, hpos⟩ := find_is hS.out hi
            have IS := Lib.hid hi
            rw [hlk] at DS
            have HLK := Lib.hid hlk
            obtain ⟨fb, fo, flv, rfl, _, _, _, f1, _, hfl⟩ := elems_file o3 hf
            clear hi hf hlk o3 hfp
            have F1 := Lib.hid f1
            clear f1
            go_wp2_with fail
            generalize wr.alloc (.cells #[.int .i64 c.what, .string c.path, .slice ha c.hunks.length hcap] 36) = wA at hA d0 d1 d2 ⊢
            have hnA := hn.never hA
            have HLT := own_block_lt hn.own
            clear hn c0 c1 c2
            refine (find_any T c.path _ _ (hnA.own.rdv.sub (fun _ _ h => h.elim)) hS.out hT).mono ?_
            rintro e w4 ⟨rfl, hc4⟩
            have hn4 := hnA.never hc4
            have d0 := hc4.cellNever d0
            have d1 := hc4.cellNever d1
            have d2 := hc4.cellNever d2
            have hQ := hA.trans hc4
            clear hnA hA hc4
            rw [IS.out]
            have f1 := hQ.cellNever F1.out
            have hfl4 := (hfl.never hQ).sub (O' := Never) (fun _ _ h => h.elim)
            go_wp2_with fail
            refine (done_any true f.lines c _ _ _ (hfl4) (hhv.out.never hn4.chg)).mono ?_
            rintro e w5 ⟨r5, rfl, hc5, hr5⟩
            have hnD := hn4.never hc5
            have d0 := hc5.cellNever d0
            have d1 := hc5.cellNever d1
            have d2 := hc5.cellNever d2
            obtain ⟨ra, rc, rfl, _, _, _⟩ := rdv_slice hr5
            clear f1 hfl4
            have HST : Hid ((stepOf (look T c.path) c).2 = (doneR true f.lines c).2.2) := by rw [Hid, HLK.out, DS.out]; rfl
            by_cases hst : (stepOf (look T c.path) c).2 = 0
            · have hd0 := hst
              rw [HST.out] at hd0
              have HST0 := Lib.hid hst
              have HD0 := Lib.hid hd0
              obtain ⟨q1, q2, q3⟩ := done_ok hd0
              have k2 : c.what ≠ 2 := fun e => absurd (q1 e) (by decide)
              have t2 : (c.what == 2) = false := by simp [k2]
              have t2' : (c.what != 2) = true := by simp [k2]
              have hrf := hn4.fresh hr5
              have HSS0 : Hid (Sorted (setAt T c.path (stepOf (look T c.path) c).1)) := setAt_sorted hS.out (step_at hS.out (Prod.ext rfl HST0.out))
              have HNX0 : Hid (applyGo (k + 1) (setAt T c.path (stepOf (look T c.path) c).1) (p.drop (k + 1)) = applyGo 0 t p) := by rw [Hid, ← apply_step HD.out HST0.out]; exact hG.out
              have hdl := drop_len hpos
              rw [HD0.out, errV_zero]
              by_cases k3 : c.what = 3
              · have q3' : (doneR true f.lines c).2.1 = false := by rw [q3, k3]; rfl
                have HSET : Hid (setAt T c.path (stepOf (look T c.path) c).1 = dropAt T (posOf T c.path)) := by
                  rw [Hid, HLK.out, DS.out]
                  show setAt T c.path (if (doneR true f.lines c).2.1 = true then some (doneR true f.lines c).1 else none) = _
                  rw [if_neg (by rw [q3']; decide)]; rfl
                rw [q3']
                clear hst hd0 q1 q2 q3 q3' k2 k3 hr5 hc5 hrf d1 d2
                go_wp2_with fail
                refine (delete_any T (posOf T c.path) _ w w5 hnD hpos hT).mono ?_
                rintro e w8 ⟨r8, rfl, hn8, _, _⟩
                obtain ⟨va8, vn8, vc8, rfl⟩ := own_isSlice hn8.own
                clear d0 hnD hn4
                go_wp2_with fail
                go_roundw
                case rel => exact ⟨k + 1, _, by omega, by go_num, hn8, by rw [← HSET.out]; exact HSS0, by omega, by rw [← HSET.out]; exact HNX0⟩
                case measure => simp [intOf] <;> omega
              · have q3' : (doneR true f.lines c).2.1 = true := by rw [q3]; exact decide_eq_true k3
                have HSET : Hid (setAt T c.path (stepOf (look T c.path) c).1 = insAt (dropAt T (posOf T c.path)) (posOf T c.path) ⟨c.path, (doneR true f.lines c).1⟩) := by
                  rw [Hid, HLK.out, DS.out]
                  show setAt T c.path (if (doneR true f.lines c).2.1 = true then some (doneR true f.lines c).1 else none) = _
                  rw [if_pos q3', set_edit IS.out hpos]
                have HIL := Lib.hid (ins_len (T := dropAt T (posOf T c.path)) (i := posOf T c.path) (f := ⟨c.path, (doneR true f.lines c).1⟩) (by omega))
                rw [q3']
                clear hst hd0 q1 q2 q3 q3' k2 k3 hr5 hc5 d2
                go_wp2_with fail
                refine (delete_any T (posOf T c.path) _ w w5 hnD hpos hT).mono ?_
                rintro e w8 ⟨r8, rfl, hn8, hch8, hob8⟩
                have d1 := hch8.cell d1 (fun h => absurd (HLT _ h) (Nat.lt_irrefl _))
                have hrf8 := hrf.keep (O'' := fun k => Never k ∨ r8.ownBlock = some k) hch8 (fun k _ h => .inr h) (fun k _ h => h.imp_right (hob8 k))
                have hlt8 := own_block_lt hn8.own
                obtain ⟨va8, vn8, vc8, rfl⟩ := own_isSlice hn8.own
                clear d0 hnD hn4 hrf hch8 hob8
                have hnB := heap_alloc_new w8 (.cells #[.string c.path, .slice ra (doneR true f.lines c).1.length rc] 76)
                have hAB : Chg Never w8 (w8.alloc (.cells #[.string c.path, .slice ra (doneR true f.lines c).1.length rc] 76)) := (Chg.refl Never w8).alloc _
                go_wp2_with fail
                generalize w8.alloc (.cells #[.string c.path, .slice ra (doneR true f.lines c).1.length rc] 76) = wB at hnB hAB ⊢
                refine (insert_any (dropAt T (posOf T c.path)) (posOf T c.path) ⟨c.path, (doneR true f.lines c).1⟩ _ (.slice ra (doneR true f.lines c).1.length rc) w wB w8.heap.size 76 (hn8.never hAB) (by omega) (by omega) hnB (fun k hk e => absurd (hlt8 k hk) (by rw [e]; omega)) ⟨_, rfl, hpc, hrf8.never hAB⟩).mono ?_
                rintro e w9 ⟨r9, rfl, hn9⟩
                obtain ⟨va9, vn9, vc9, rfl⟩ := own_isSlice hn9.own
                clear hnB hAB d1 hrf8 hn8
                go_wp2_with fail
                go_roundw
                case rel => exact ⟨k + 1, _, by omega, by go_num, hn9, by rw [← HSET.out]; exact HSS0, by rw [HIL.out]; omega, by rw [← HSET.out]; exact HNX0⟩
                case measure => simp [intOf] <;> omega
            · have E := applyPost_bad (w := w) (applyR_go Z.out Y.out (by rw [← hG.out]; exact apply_bad HD.out hst) |>.trans (if_pos hst)) hnD.chg
              have hst' := hst
              rw [HST.out] at E hst'
              rw [errV_pos hst'] at E ⊢
              clear hst hst' d0 d1 d2
              go_wp2_with fail
              go_ret3
              exact E
          | false =>
            obtain ⟨hlk, hpos⟩ := find_not hS.out hi
            have IS := Lib.hid hi
            rw [hlk] at DS
            have HLK := Lib.hid hlk
            clear hi hlk o3
            go_wp2_with fail
            generalize wr.alloc (.cells #[.int .i64 c.what, .string c.path, .slice ha c.hunks.length hcap] 36) = wA at hA d0 d1 d2 ⊢
            have hnA := hn.never hA
            have HLT := own_block_lt hn.own
            clear hn c0 c1 c2
            refine (find_any T c.path _ _ (hnA.own.rdv.sub (fun _ _ h => h.elim)) hS.out hT).mono ?_
            rintro e w4 ⟨rfl, hc4⟩
            have hn4 := hnA.never hc4
            have d0 := hc4.cellNever d0
            have d1 := hc4.cellNever d1
            have d2 := hc4.cellNever d2
            have hQ := hA.trans hc4
            clear hnA hA hc4
            rw [IS.out]
            go_wp2_with fail
            refine (done_any false ([] : List ByteArray) c _ _ _ ((rdv_nil _ _)) (hhv.out.never hn4.chg)).mono ?_
            rintro e w5 ⟨r5, rfl, hc5, hr5⟩
            have hnD := hn4.never hc5
            have d0 := hc5.cellNever d0
            have d1 := hc5.cellNever d1
            have d2 := hc5.cellNever d2
            obtain ⟨ra, rc, rfl, _, _, _⟩ := rdv_slice hr5
            have HST : Hid ((stepOf (look T c.path) c).2 = (doneR false [] c).2.2) := by rw [Hid, HLK.out, DS.out]; rfl
            by_cases hst : (stepOf (look T c.path) c).2 = 0
            · have hd0 := hst
              rw [HST.out] at hd0
              have HST0 := Lib.hid hst
              have HD0 := Lib.hid hd0
              obtain ⟨q1, q2, q3⟩ := done_ok hd0
              have k2 : c.what = 2 := by
                by_cases e : c.what = 2
                · exact e
                · exact absurd (q2 e) (by decide)
              have q3' : (doneR false [] c).2.1 = true := by rw [q3, k2]; rfl
              have t2 : (c.what == 2) = true := by simp [k2]
              have hrf := hn4.fresh hr5
              have HSET : Hid (setAt T c.path (stepOf (look T c.path) c).1 = insAt T (posOf T c.path) ⟨c.path, (doneR false [] c).1⟩) := by
                rw [Hid, HLK.out, DS.out]
                show setAt T c.path (if (doneR false [] c).2.1 = true then some (doneR false [] c).1 else none) = _
                rw [if_pos q3', set_put IS.out]
              have HNX : Hid (applyGo (k + 1) (insAt T (posOf T c.path) ⟨c.path, (doneR false [] c).1⟩) (p.drop (k + 1)) = applyGo 0 t p) := by rw [Hid, ← HSET.out, ← apply_step HD.out HST0.out]; exact hG.out
              have HSS : Hid (Sorted (insAt T (posOf T c.path) ⟨c.path, (doneR false [] c).1⟩)) := by
                rw [Hid, ← HSET.out]
                exact setAt_sorted hS.out (step_at hS.out (Prod.ext rfl HST0.out))
              have HIL := Lib.hid (ins_len (T := T) (f := ⟨c.path, (doneR false [] c).1⟩) hpos)
              rw [HD0.out, errV_zero, q3']
              clear hst hd0 q1 q2 q3 q3' k2 hr5 hc5 HSET
              have hlt8 := own_block_lt hnD.own
              have hnB := heap_alloc_new w5 (.cells #[.string c.path, .slice ra (doneR false [] c).1.length rc] 76)
              have hAB : Chg Never w5 (w5.alloc (.cells #[.string c.path, .slice ra (doneR false [] c).1.length rc] 76)) := (Chg.refl Never w5).alloc _
              go_wp2_with fail
              generalize w5.alloc (.cells #[.string c.path, .slice ra (doneR false [] c).1.length rc] 76) = wB at hnB hAB ⊢
              refine (insert_any T (posOf T c.path) ⟨c.path, (doneR false [] c).1⟩ _ (.slice ra (doneR false [] c).1.length rc) w wB w5.heap.size 76 (hnD.never hAB) hpos hT hnB (fun k hk e => absurd (hlt8 k hk) (by rw [e]; omega)) ⟨_, rfl, hpc, hrf.never hAB⟩).mono ?_
              rintro e w8 ⟨r8, rfl, hn8⟩
              obtain ⟨va8, vn8, vc8, rfl⟩ := own_isSlice hn8.own
              clear hnB hAB d0 d1 d2 hrf hnD hn4
              go_wp2_with fail
              go_roundw
              case rel => exact ⟨k + 1, _, by omega, by go_num, hn8, HSS, by rw [HIL.out]; omega, HNX⟩
              case measure => simp [intOf] <;> omega
            · have E := applyPost_bad (w := w) (applyR_go Z.out Y.out (by rw [← hG.out]; exact apply_bad HD.out hst) |>.trans (if_pos hst)) hnD.chg
              have hst' := hst
              rw [HST.out] at E hst'
              rw [errV_pos hst'] at E ⊢
              clear hst hst' d0 d1 d2
              go_wp2_with fail
              go_ret3
              exact E
        · obtain rfl : k = p.length := by omega
          have hGo := hG.out
          rw [apply_end] at hGo
          have hR := applyR_go Z.out Y.out hGo.symm
          rw [if_neg (by decide)] at hR
          by_cases h8 : 8 < T.length
          · rw [if_pos h8] at hR
            have E := applyPost_bad (k := 0) hR hn.chg
            rw [errV_pos (by decide)] at E
            clear hR hGo hG
            go_wp2_with fail
            go_ret3
            exact E
          · rw [if_neg h8] at hR
            have HR := Lib.hid hR
            have hr := hn.own.rdv.sub (O' := Never) (fun _ _ h => h.elim)
            clear hR hGo hG
            go_wp2_with fail
            go_ret3
            exact applyPost_ok HR.out hn.chg hr
    · have HE := Lib.hid (applyR_patch z y)
      have Y := Lib.hid y
      have Z := Lib.hid z
      clear z y
      go_enter Tryz.func12, Tryz.ntmps12
      go_wp2_with fail
      refine (tree_check_any t _ _ ht m hm).mono ?_
      rintro e w1 ⟨rfl, hw⟩
      rw [Z.out, errV_zero]
      go_wp2_with fail
      refine (patch_check_any p _ _ (hp.never hw) m (hw.cellNever hm)).mono ?_
      rintro e w2 ⟨rfl, hc2⟩
      have E := applyPost_bad HE.out (hw.trans hc2)
      rw [errV_pos Y.out] at E ⊢
      go_wp2_with fail
      go_ret3
      exact E
  · have HE := Lib.hid (applyR_tree (p := p) z)
    have Z := Lib.hid z
    clear z
    go_enter Tryz.func12, Tryz.ntmps12
    go_wp2_with fail
    refine (tree_check_any t _ _ ht m hm).mono ?_
    rintro e w1 ⟨rfl, hw⟩
    have E := applyPost_bad HE.out hw
    rw [errV_pos Z.out] at E ⊢
    go_wp2_with fail
    go_ret3
    exact E
end Go.Proofs.YteocmmejfnmjcaaGreatDoor
namespace Go.Proofs.YteocmmejfnmjcaaGreatDoor
open Go.RowKit

theorem placeT_is {t : List File} (h : Sorted t) {p : ByteArray} (hi : isAt t p = true) : placeI t p = posOf t p := by
  unfold placeI; rw [placeOf_sorted h, if_pos hi]
theorem placeT_not {t : List File} (h : Sorted t) {p : ByteArray} (hi : isAt t p = false) : placeI t p = -1 := by
  unfold placeI; rw [placeOf_sorted h, if_neg (by rw [hi]; decide)]
def RefApPost (t : List File) (p : List Change) (w : World) (e : Ending) (w' : World) : Prop := ∃ r, e = .returned (.tuple #[r, .int .i64 (applyR t p).2.1, .int .i64 (applyR t p).2.2]) ∧ Chg Never w w' ∧ Rdv w' Never r (applyR t p).1
theorem rap_bad {t : List File} {p : List Change} {k : Nat} {e : Int} {w w' : World} (h : applyR t p = ([], k, e)) (hc : Chg Never w w') : RefApPost t p w (.returned (.tuple #[.slice none 0 0, .int .i64 k, .int .i64 e])) w' :=
  ⟨_, by rw [h], hc, by rw [h]; exact rdv_nil _ _⟩
theorem rap_ok {t R : List File} {p : List Change} {w w' : World} {r : Value} (h : applyR t p = (R, 0, 0)) (hc : Chg Never w w') (hr : Rdv w' Never r R) : RefApPost t p w (.returned (.tuple #[r, .int .i64 0, .int .i64 0])) w' :=
  ⟨r, by rw [h]; rfl, hc, by rw [h]; exact hr⟩
theorem apply_ret {t T : List File} {p : List Change} {k : Nat} {c : Change} {F : Int} (z : (treeFault t).2 = 0) (y : (patchFault p).2 = 0) (hG : applyGo k T (p.drop k) = applyGo 0 t p) (hd : p.drop k = c :: p.drop (k + 1)) (hst : (stepOf (look T c.path) c).2 = F) (hF : F ≠ 0) : applyR t p = ([], k, F) := by
  subst hst
  rw [applyR_go z y (hG.symm.trans (apply_bad hd hF)), if_pos hF]
theorem step_done {T : List File} {c : Change} {there : Bool} {L : List ByteArray} {x : Option (List ByteArray)} (hl : look T c.path = x) (h1 : x.isSome = there) (h2 : x.getD [] = L) : stepOf (look T c.path) c = (if (doneR there L c).2.1 = true then some (doneR there L c).1 else none, (doneR there L c).2.2) := by
  rw [hl, done_step, h1, h2]
set_option maxHeartbeats 8000000 in
set_option maxRecDepth 100000 in
theorem refApply_any (t : List File) (p : List Change) (vt vp : Value) (w : World) (ht : Rdv w Never vt t) (hp : Rdv w Never vp p) :
    Calls Tryz.prog 11 #[vt, vp] w fun e w' => RefApPost t p w e w' := by
  obtain ⟨ta, tcap, rfl, _, _, _⟩ := rdv_slice ht
  obtain ⟨pa, pcap, rfl, p1, p2, p3⟩ := rdv_slice hp
  unfold maxLen at p2
  by_cases z : (treeFault t).2 = 0
  · have Z := Lib.hid z
    by_cases y : (patchFault p).2 = 0
    · have Y := Lib.hid y
      have t8 := (treeFault_zero z).1
      have tsrt := Lib.hid (treeFault_zero z).2.2.1
      have pl := (patch_of y).1
      clear z y
      go_enter Tryz.func11, Tryz.ntmps11
      go_wp2_with fail
      refine (refTree_any t _ _ ht).mono ?_
      rintro e w1 ⟨rfl, hw⟩
      rw [Z.out]
      go_wp2_with fail
      refine (refPatch_any p _ _ (hp.never hw)).mono ?_
      rintro e w2 ⟨rfl, hc2⟩
      have hw := hw.trans hc2
      clear hc2
      rw [Y.out]
      have ht0 := ht.never hw
      go_wp2_with fail
      go_loopw [10, 11] (fun v i wr => ∃ (k : Nat) (T : List File), k ≤ p.length ∧ i = .int .i64 k ∧ Chg Never w wr ∧ Rdv wr Never v T ∧ Hid (Sorted T) ∧ T.length ≤ 8 + k ∧ Hid (applyGo k T (p.drop k) = applyGo 0 t p)) (fun _ i _ => p.length - (intOf i).toNat)
      case atStart => exact ⟨0, t, Nat.zero_le _, rfl, hw, ht0, tsrt, by omega, rfl⟩
      case round =>
        clear hw ht0
        rename World => wr
        obtain ⟨k, T, hk, rfl, hc, hT, hS, hTl, hG⟩ := hrel
        obtain ⟨oa, ocap, rfl, o1, o2, o3⟩ := rdv_slice hT
        unfold maxLen at o2
        by_cases hlt : k < p.length
        · obtain ⟨c, hx⟩ : ∃ c, p[k]? = some c := ⟨p[k], by simp [hlt]⟩
          obtain ⟨wh, pt, hs⟩ := c
          obtain ⟨pb, po, hv, hpo, _, _, c0, c1, c2, hpc, hhv⟩ := elems_change p3 hx
          subst hpo
          simp only at c0 c1 c2 hpc hhv
          obtain ⟨ha, hcap, rfl, _, _, _⟩ := rdv_slice hhv
          have hhv := Lib.hid hhv
          have c0 := hc.cellNever c0
          have c1 := hc.cellNever c1
          have c2 := hc.cellNever c2
          have HD := Lib.hid (drop_eq hx)
          obtain ⟨hA, d0, d1, d2⟩ := box1_change wr 36 wh pt (.slice ha hs.length hcap) _ rfl
          clear hx p3
          go_wp2_with fail
          generalize wr.alloc (.cells #[.int .i64 wh, .string pt, .slice ha hs.length hcap] 36) = wA at hA d0 d1 d2 ⊢
          clear c0 c1 c2
          refine (refPlace_any T pt _ _ (hT.never hA)).mono ?_
          rintro e w4 ⟨rfl, hc4⟩
          have hQ := hA.trans hc4
          have hcD := hc.trans hQ
          have hT := hT.never hQ
          have d0 := hc4.cellNever d0
          have d1 := hc4.cellNever d1
          have d2 := hc4.cellNever d2
          clear hA hc4
          cases hi : isAt T pt with
          | true =>
            obtain ⟨f, hf, _, hlk, hpos⟩ := find_is hS.out hi
            rw [placeT_is hS.out hi]
            have DS := Lib.hid (step_done (c := ⟨wh, pt, hs⟩) (there := true) (L := f.lines) hlk rfl rfl)
            obtain ⟨fb, fo, flv, rfl, _, _, _, f1, _, hfl⟩ := elems_file o3 hf
            have f1 := hQ.cellNever f1
            have hfl := hfl.never hQ
            obtain ⟨la, lc, rfl, _, _, _⟩ := rdv_slice hfl
            clear hi hf hlk o3 hQ
            by_cases k2 : wh = 2
            · subst k2
              have HE : Hid (applyR t p = ([], k, 6)) := apply_ret Z.out Y.out hG.out HD.out (by rw [show stepOf (look T pt) ⟨2, pt, hs⟩ = _ from DS.out, done_clash ⟨rfl, rfl⟩]) (by decide)
              clear hG DS
              go_wp2_with fail
              go_ret3
              exact rap_bad HE.out hcD
            · have t2 : (wh == 2) = false := by simp [k2]
              have t2' : (wh != 2) = true := by simp [k2]
              go_wp2_with fail
              refine (strictOf_any f.lines hs _ _ _ (hfl) (hhv.out.never hcD)).mono ?_
              rintro e w6 ⟨r6, rfl, hc6, hr6⟩
              have hcD := hcD.trans hc6
              have hT := hT.never hc6
              have d0 := hc6.cellNever d0
              have d1 := hc6.cellNever d1
              obtain ⟨sa, sc, rfl, _, _, _⟩ := rdv_slice hr6
              clear hc6
              by_cases zz : (strict f.lines hs).2.2 = 0
              · have hrw : ((strict f.lines hs).2.2 != 0) = false := by simp [zz]
                by_cases k3 : wh = 3
                · subst k3
                  by_cases h0 : (strict f.lines hs).1 = []
                  · have HDN : Hid (doneR true f.lines ⟨3, pt, hs⟩ = ([], false, 0)) := (done_good (there := true) (c := ⟨3, pt, hs⟩) (fun h => absurd (show (3 : Int) = 2 from h.1) (by decide)) (fun h => by cases h.2) zz (fun h => h.2 h0)).trans (by rw [show (strict f.lines (⟨3, pt, hs⟩ : Change).hunks).1 = [] from h0]; rfl)
                    have HSET : stepOf (look T pt) ⟨3, pt, hs⟩ = (none, 0) := by rw [show stepOf (look T pt) ⟨3, pt, hs⟩ = _ from DS.out, HDN.out]; rfl
                    have HNX : Hid (applyGo (k + 1) (dropAt T (posOf T pt)) (p.drop (k + 1)) = applyGo 0 t p) := by
                      have e := apply_step (T := T) HD.out (by rw [HSET])
                      rw [show (⟨3, pt, hs⟩ : Change).path = pt from rfl, HSET] at e
                      rw [Hid, ← hG.out]
                      exact e.symm
                    have HSS : Hid (Sorted (dropAt T (posOf T pt))) := setAt_sorted (y := none) hS.out (step_at hS.out HSET)
                    have hdl := drop_len hpos
                    rw [zz]
                    rw [h0] at hr6 ⊢
                    clear HSET hG zz h0 hrw DS k2 t2 t2' f1
                    go_wp2_with fail
                    refine (refDrop_any T (posOf T pt) _ _ hT hpos (by omega)).mono ?_
                    rintro e w7 ⟨r7, rfl, hc7, hr7⟩
                    have hcD := hcD.trans hc7
                    clear hc7 d0 d1 d2 hr6
                    go_wp2_with fail
                    go_roundw
                    case rel => exact ⟨k + 1, _, by omega, by go_num, hcD, hr7, HSS, by omega, HNX⟩
                    case measure => simp [intOf] <;> omega
                  · have HE : Hid (applyR t p = ([], k, 6)) := apply_ret Z.out Y.out hG.out HD.out (by rw [show stepOf (look T pt) ⟨3, pt, hs⟩ = _ from DS.out, done_left (there := true) (c := ⟨3, pt, hs⟩) (fun h => absurd (show (3 : Int) = 2 from h.1) (by decide)) (fun h => by cases h.2) zz ⟨rfl, h0⟩]) (by decide)
                    have hpos : 0 < (strict f.lines hs).1.length := List.length_pos_iff.2 h0
                    rw [zz]
                    clear hG DS zz h0 hrw k2 t2 t2' f1
                    go_wp2_with fail
                    go_ret3
                    exact rap_bad HE.out hcD
                · have t3 : (wh == 3) = false := by simp [k3]
                  have t3' : (wh != 3) = true := by simp [k3]
                  have HDN : Hid (doneR true f.lines ⟨wh, pt, hs⟩ = ((strict f.lines hs).1, true, 0)) := (done_good (there := true) (c := ⟨wh, pt, hs⟩) (fun h => k2 h.1) (fun h => by cases h.2) zz (fun h => k3 h.1)).trans (by rw [show decide ((⟨wh, pt, hs⟩ : Change).what ≠ 3) = true from decide_eq_true k3])
                  rw [zz]
                  clear zz k2 k3 hrw f1
                  have HSET : stepOf (look T pt) ⟨wh, pt, hs⟩ = (some (strict f.lines hs).1, 0) := by rw [show stepOf (look T pt) ⟨wh, pt, hs⟩ = _ from DS.out, HDN.out]; rfl
                  have HNX : Hid (applyGo (k + 1) (setAt T pt (some (strict f.lines hs).1)) (p.drop (k + 1)) = applyGo 0 t p) := by
                    have e := apply_step (T := T) HD.out (by rw [HSET])
                    rw [show (⟨wh, pt, hs⟩ : Change).path = pt from rfl, HSET] at e
                    rw [Hid, ← e]
                    exact hG.out
                  have HSS : Hid (Sorted (setAt T pt (some (strict f.lines hs).1))) := setAt_sorted hS.out (fun e => by cases e)
                  have HPL : Hid (putLoop ⟨pt, (strict f.lines hs).1⟩ false T = setAt T pt (some (strict f.lines hs).1)) := putLoop_sorted _ _ hS.out
                  have HLN : Hid ((setAt T pt (some (strict f.lines hs).1)).length ≤ T.length + 1) := by
                    have := putAt_len hS.out ⟨pt, (strict f.lines hs).1⟩
                    show (putAt T ⟨pt, (strict f.lines hs).1⟩).length ≤ _
                    rw [this]; split <;> omega
                  clear HSET hG
                  go_wp2_with fail
                  refine (refPut_any T ⟨pt, (strict f.lines hs).1⟩ _ _ _ hT hr6 hpc (by omega)).mono ?_
                  rintro e w7 ⟨r7, rfl, hc7, hr7⟩
                  rw [HPL.out] at hr7
                  have hcD := hcD.trans hc7
                  have hle := HLN.out
                  clear hc7 d0 d1 hr6
                  go_wp2_with fail
                  go_roundw
                  case rel => exact ⟨k + 1, _, by omega, by go_num, hcD, hr7, HSS, by omega, HNX⟩
                  case measure => simp [intOf] <;> omega
              · have HE : Hid (applyR t p = ([], k, (strict f.lines hs).2.2)) := apply_ret Z.out Y.out hG.out HD.out (by rw [show stepOf (look T pt) ⟨wh, pt, hs⟩ = _ from DS.out, done_bad (there := true) (c := ⟨wh, pt, hs⟩) (fun h => k2 h.1) (fun h => by cases h.2) zz]) zz
                have z0 : ((strict f.lines hs).2.2 == 0) = false := by simp [zz]
                have z0' : ((strict f.lines hs).2.2 != 0) = true := by simp [zz]
                clear hG DS zz k2 f1
                go_wp2_with fail
                go_ret3
                exact rap_bad HE.out hcD
          | false =>
            obtain ⟨hlk, _⟩ := find_not hS.out hi
            rw [placeT_not hS.out hi]
            have DS := Lib.hid (step_done (c := ⟨wh, pt, hs⟩) (there := false) (L := []) hlk rfl rfl)
            clear hi hlk o3 hQ
            by_cases k2 : wh = 2
            · subst k2
              go_wp2_with fail
              refine (strictOf_any ([] : List ByteArray) hs _ _ _ ((rdv_nil _ _)) (hhv.out.never hcD)).mono ?_
              rintro e w6 ⟨r6, rfl, hc6, hr6⟩
              have hcD := hcD.trans hc6
              have hT := hT.never hc6
              have d0 := hc6.cellNever d0
              have d1 := hc6.cellNever d1
              obtain ⟨sa, sc, rfl, _, _, _⟩ := rdv_slice hr6
              clear hc6
              by_cases zz : (strict [] hs).2.2 = 0
              · have HDN : Hid (doneR false [] ⟨2, pt, hs⟩ = ((strict [] hs).1, true, 0)) := done_good (there := false) (c := ⟨2, pt, hs⟩) (fun h => by cases h.2) (fun h => h.1 rfl) zz (fun h => absurd (show (2 : Int) = 3 from h.1) (by decide))
                rw [zz]
                clear zz
                have HSET : stepOf (look T pt) ⟨2, pt, hs⟩ = (some (strict [] hs).1, 0) := by rw [show stepOf (look T pt) ⟨2, pt, hs⟩ = _ from DS.out, HDN.out]; rfl
                have HNX : Hid (applyGo (k + 1) (setAt T pt (some (strict [] hs).1)) (p.drop (k + 1)) = applyGo 0 t p) := by
                  have e := apply_step (T := T) HD.out (by rw [HSET])
                  rw [show (⟨2, pt, hs⟩ : Change).path = pt from rfl, HSET] at e
                  rw [Hid, ← e]
                  exact hG.out
                have HSS : Hid (Sorted (setAt T pt (some (strict [] hs).1))) := setAt_sorted hS.out (fun e => by cases e)
                have HPL : Hid (putLoop ⟨pt, (strict [] hs).1⟩ false T = setAt T pt (some (strict [] hs).1)) := putLoop_sorted _ _ hS.out
                have HLN : Hid ((setAt T pt (some (strict [] hs).1)).length ≤ T.length + 1) := by
                  have := putAt_len hS.out ⟨pt, (strict [] hs).1⟩
                  show (putAt T ⟨pt, (strict [] hs).1⟩).length ≤ _
                  rw [this]; split <;> omega
                clear HSET hG
                go_wp2_with fail
                refine (refPut_any T ⟨pt, (strict [] hs).1⟩ _ _ _ hT hr6 hpc (by omega)).mono ?_
                rintro e w7 ⟨r7, rfl, hc7, hr7⟩
                rw [HPL.out] at hr7
                have hcD := hcD.trans hc7
                have hle := HLN.out
                clear hc7 d0 d1 hr6
                go_wp2_with fail
                go_roundw
                case rel => exact ⟨k + 1, _, by omega, by go_num, hcD, hr7, HSS, by omega, HNX⟩
                case measure => simp [intOf] <;> omega
              · have HE : Hid (applyR t p = ([], k, (strict [] hs).2.2)) := apply_ret Z.out Y.out hG.out HD.out (by rw [show stepOf (look T pt) ⟨2, pt, hs⟩ = _ from DS.out]; show (doneR false [] _).2.2 = _; rw [done_bad (there := false) (c := ⟨2, pt, hs⟩) (fun h => by cases h.2) (fun h => h.1 rfl) zz]) zz
                have z0 : ((strict [] hs).2.2 == 0) = false := by simp [zz]
                have z0' : ((strict [] hs).2.2 != 0) = true := by simp [zz]
                clear hG DS zz
                go_wp2_with fail
                go_ret3
                exact rap_bad HE.out hcD
            · have HE : Hid (applyR t p = ([], k, 4)) := apply_ret Z.out Y.out hG.out HD.out (by rw [show stepOf (look T pt) ⟨wh, pt, hs⟩ = _ from DS.out]; show (doneR false [] _).2.2 = _; rw [done_none ⟨k2, rfl⟩]) (by decide)
              have t2 : (wh == 2) = false := by simp [k2]
              have t2' : (wh != 2) = true := by simp [k2]
              clear hG DS k2
              go_wp2_with fail
              go_ret3
              exact rap_bad HE.out hcD
        · obtain rfl : k = p.length := by omega
          have hGo := hG.out
          rw [apply_end] at hGo
          have hR := applyR_go Z.out Y.out hGo.symm
          rw [if_neg (by decide)] at hR
          by_cases h8 : 8 < T.length
          · rw [if_pos h8] at hR
            have E := Lib.hid (rap_bad (k := 0) hR hc)
            clear hR hGo hG
            go_wp2_with fail
            go_ret3
            exact E.out
          · rw [if_neg h8] at hR
            have HR := Lib.hid hR
            clear hR hGo hG
            go_wp2_with fail
            go_ret3
            exact rap_ok HR.out hc hT
    · have HE := Lib.hid (applyR_patch z y)
      have Z := Lib.hid z
      have y0 : ((patchFault p).2 == 0) = false := by simp [y]
      have y0' : ((patchFault p).2 != 0) = true := by simp [y]
      clear z y
      go_enter Tryz.func11, Tryz.ntmps11
      go_wp2_with fail
      refine (refTree_any t _ _ ht).mono ?_
      rintro e w1 ⟨rfl, hw⟩
      rw [Z.out]
      go_wp2_with fail
      refine (refPatch_any p _ _ (hp.never hw)).mono ?_
      rintro e w2 ⟨rfl, hc2⟩
      go_wp2_with fail
      go_ret3
      exact rap_bad HE.out (hw.trans hc2)
  · have HE := Lib.hid (applyR_tree (p := p) z)
    have z0 : ((treeFault t).2 == 0) = false := by simp [z]
    have z0' : ((treeFault t).2 != 0) = true := by simp [z]
    clear z
    go_enter Tryz.func11, Tryz.ntmps11
    go_wp2_with fail
    refine (refTree_any t _ _ ht).mono ?_
    rintro e w1 ⟨rfl, hw⟩
    go_wp2_with fail
    go_ret3
    exact rap_bad HE.out hw
end Go.Proofs.YteocmmejfnmjcaaGreatDoor
namespace Go.Proofs.YteocmmejfnmjcaaGreatDoor
open Go.RowKit

set_option maxHeartbeats 1000000 in
set_option maxRecDepth 100000 in
theorem series_any (l m : List (List Change)) (v u : Value) (w : World) (h : Rdv w Never v l) (g : Rdv w Never u m) :
    Calls Tryz.prog 21 #[v, u] w fun e w' => e = .returned (.bool (decide (l = m))) ∧ Chg Never w w' := by
  obtain ⟨a, cap, rfl, h1, h2, h3⟩ := rdv_slice h
  obtain ⟨c, cap', rfl, g1, g2, g3⟩ := rdv_slice g
  unfold maxLen at h2 g2
  by_cases h4 : l.length = m.length
  · have h4' : ((l.length : Int) != m.length) = false := by simp [h4]
    have H4 := Lib.hid h4
    clear h4
    go_enter Tryz.func21, Tryz.ntmps21
    go_wp2_with fail
    go_loopw [5] (fun i wr => ∃ k : Nat, k ≤ l.length ∧ i = .int .i64 k ∧ Hid (l.take k = m.take k) ∧ Chg Never w wr) (fun i _ => l.length - (intOf i).toNat)
    case atStart => exact ⟨0, Nat.zero_le _, rfl, by simp [Hid], Chg.refl _ _⟩
    case round =>
      obtain ⟨k, hk, rfl, hf, hc⟩ := hrel
      by_cases hlt : k < l.length
      · obtain ⟨x, hx⟩ : ∃ x, l[k]? = some x := ⟨l[k], by simp [hlt]⟩
        obtain ⟨y, hy⟩ : ∃ y, m[k]? = some y := ⟨m[k]'(by rw [← H4.out]; exact hlt), by simp [H4.out ▸ hlt]⟩
        obtain ⟨b, off, mv, rfl, _, _, c0, hmv⟩ := elems_list h3 hx
        obtain ⟨b', off', mv', rfl, _, _, d0, hmv'⟩ := elems_list g3 hy
        have c0 := hc.cellNever c0
        have d0 := hc.cellNever d0
        have hmv := hmv.never hc
        have hmv' := hmv'.never hc
        clear h3 g3 h g
        have hlm : k < m.length := by rw [← H4.out]; exact hlt
        have HX := Lib.hid hx
        have HY := Lib.hid hy
        clear hx hy
        have b1 : (k : Int) < l.length := by omega
        have b2 : (k : Int) < m.length := by omega
        go_wp2_with fail
        refine wp_region_still_tail 8 (by kernel_rfl) (by kernel_rfl) ?_
        simp only [List.take_succ_cons, List.take_zero, List.drop_succ_cons, List.drop_zero]
        change wpStill _ _ wr.drew _ _ _
        repeat still_step
        refine wpStill_nil ?_
        change wpList _ _ _ _ _ wr.drew
        have hcd : Chg Never w wr.drew := hc.drew
        have hmd := hmv.never ((Chg.refl Never wr).drew)
        have hmd' := hmv'.never ((Chg.refl Never wr).drew)
        generalize wr.drew = w3 at hcd hmd hmd'
        clear hmv hmv' c0 d0 hc
        go_wp2_with fail
        refine (patches_any x y _ _ _ hmd hmd').mono ?_
        rintro e w4 ⟨rfl, hc4⟩
        have hc5 := hcd.trans hc4
        by_cases hxy : x = y
        · have HXY := Lib.hid hxy
          rw [decide_eq_true hxy]
          clear hxy
          go_wp2_with fail
          go_roundw
          case rel => exact ⟨k + 1, by omega, by go_num, take_same hf HX.out (by rw [HXY.out]; exact HY.out), hc5⟩
          case measure => simp [intOf] <;> omega
        · have HN := Lib.hid (decide_eq_false (ne_of_get HX.out HY.out hxy))
          rw [decide_eq_false hxy]
          clear hxy
          go_wp2_with fail
          go_ret
          exact ⟨by rw [HN.out]; rfl, hc5⟩
      · go_wp2_with fail
        go_ret
        have E : l = m := by
          have := hf.out
          rwa [List.take_of_length_le (by omega), List.take_of_length_le (by rw [← H4.out]; omega)] at this
        exact ⟨by rw [decide_eq_true E]; rfl, hc⟩
  · have h4' : ((l.length : Int) != m.length) = true := by simp; omega
    go_enter Tryz.func21, Tryz.ntmps21
    go_wp2_with fail
    go_ret
    exact ⟨by rw [decide_eq_false (fun e => h4 (by rw [e]))]; rfl, Chg.refl _ _⟩
/-! ### Behind -/
def rngF (n : Int) : Int := if n < 0 ∨ 1000 < n then 1 else 0
/-- the fault: of the first, of the second (done to D), of the range -/
def behF (t : List File) (p q : List Change) (D : List File) (n : Int) : Int := if (applyR t p).2.2 ≠ 0 then (applyR t p).2.2 else if (applyR D q).2.2 ≠ 0 then (applyR D q).2.2 else rngF n
def behB (t : List File) (p q : List Change) (D : List File) (n : Int) : List File := if behF t p q D n = 0 then (applyR t p).1 else []
def behC (t : List File) (p q : List Change) (D : List File) (n : Int) : List File := if behF t p q D n = 0 then (applyR D q).1 else []
def BehPost (t : List File) (p q : List Change) (D : List File) (n : Int) (w : World) (e : Ending) (w' : World) : Prop :=
  ∃ rb rc, e = .returned (.tuple #[rb, rc, .int .i64 (behF t p q D n)]) ∧ Chg Never w w' ∧ Rdv w' Never rb (behB t p q D n) ∧ Rdv w' Never rc (behC t p q D n)
theorem beh_bad {t : List File} {p q : List Change} {D : List File} {n k : Int} {w w' : World} (h : behF t p q D n = k) (hk : k ≠ 0) (hc : Chg Never w w') : BehPost t p q D n w (.returned (.tuple #[.slice none 0 0, .slice none 0 0, .int .i64 k])) w' := by
  subst h
  refine ⟨_, _, rfl, hc, ?_, ?_⟩
  · rw [show behB t p q D n = [] from if_neg hk]; exact rdv_nil _ _
  · rw [show behC t p q D n = [] from if_neg hk]; exact rdv_nil _ _
theorem beh_ok {t : List File} {p q : List Change} {D : List File} {n : Int} {w w' : World} {rb rc : Value} (h : behF t p q D n = 0) (hc : Chg Never w w') (hb : Rdv w' Never rb (applyR t p).1) (hcc : Rdv w' Never rc (applyR D q).1) : BehPost t p q D n w (.returned (.tuple #[rb, rc, .int .i64 0])) w' :=
  ⟨rb, rc, by rw [h], hc, by rw [show behB t p q D n = (applyR t p).1 from if_pos h]; exact hb, by rw [show behC t p q D n = (applyR D q).1 from if_pos h]; exact hcc⟩
theorem behF_p {t : List File} {p q : List Change} {D : List File} {n : Int} (h : (applyR t p).2.2 ≠ 0) : behF t p q D n = (applyR t p).2.2 := if_pos h
theorem behF_q {t : List File} {p q : List Change} {D : List File} {n : Int} (h : (applyR t p).2.2 = 0) (g : (applyR D q).2.2 ≠ 0) : behF t p q D n = (applyR D q).2.2 := by unfold behF; rw [if_neg (by rw [h]; decide), if_pos g]
theorem behF_n {t : List File} {p q : List Change} {D : List File} {n : Int} (h : (applyR t p).2.2 = 0) (g : (applyR D q).2.2 = 0) : behF t p q D n = rngF n := by unfold behF; rw [if_neg (by rw [h]; decide), if_neg (by rw [g]; decide)]
set_option maxHeartbeats 2000000 in
set_option maxRecDepth 100000 in
theorem behind_join (t : List File) (p q : List Change) (n : Int) (vt vp vq : Value) (w : World) (ht : Rdv w Never vt t) (hp : Rdv w Never vp p) (hq : Rdv w Never vq q) (hn : I64 n) :
    Calls Tryz.prog 14 #[vt, vp, vq, .bool false, .int .i64 n] w fun e w' => BehPost t p q (applyR t p).1 n w e w' := by
  unfold I64 at hn
  go_enter Tryz.func14, Tryz.ntmps14
  go_wp2_with fail
  refine (refApply_any t p _ _ _ ht hp).mono ?_
  rintro e w1 ⟨rb, rfl, hw, hrb⟩
  by_cases z : (applyR t p).2.2 = 0
  · have Z := Lib.hid z
    rw [z]
    clear z
    obtain ⟨ba, bc, rfl, _, _, _⟩ := rdv_slice hrb
    go_wp2_with fail
    refine (refApply_any (applyR t p).1 q _ _ _ (hrb) (hq.never hw)).mono ?_
    rintro e w2 ⟨rc, rfl, hc2, hrc⟩
    have hw := hw.trans hc2
    have hrb := hrb.never hc2
    clear hc2
    by_cases y : (applyR (applyR t p).1 q).2.2 = 0
    · rw [y]
      have HF := Lib.hid (@behF_n t p q (applyR t p).1 n Z.out y)
      clear y
      obtain ⟨ca, cc, rfl, _, _, _⟩ := rdv_slice hrc
      by_cases hr : n < 0 ∨ 1000 < n
      · have HB := Lib.hid (beh_bad (HF.out.trans (if_pos hr)) (by decide) hw)
        clear HF
        rcases hr with hr | hr
        · go_wp2_with fail
          go_ret3
          exact HB.out
        · have r0 : ¬ n < 0 := by omega
          go_wp2_with fail
          go_ret3
          exact HB.out
      · have r0 : ¬ n < 0 := by omega
        have r1 : ¬ 1000 < n := by omega
        have HB := Lib.hid (beh_ok (HF.out.trans (if_neg hr)) hw hrb hrc)
        clear HF hr
        go_wp2_with fail
        go_ret3
        exact HB.out
    · have HB := Lib.hid (beh_bad (n := n) (behF_q Z.out y) y hw)
      have y0 : ((applyR (applyR t p).1 q).2.2 == 0) = false := by simp [y]
      have y0' : ((applyR (applyR t p).1 q).2.2 != 0) = true := by simp [y]
      clear y hrc
      go_wp2_with fail
      go_ret3
      exact HB.out
  · have HB := Lib.hid (beh_bad (q := q) (D := (applyR t p).1) (n := n) (behF_p z) z hw)
    have z0 : ((applyR t p).2.2 == 0) = false := by simp [z]
    have z0' : ((applyR t p).2.2 != 0) = true := by simp [z]
    clear z hrb
    go_wp2_with fail
    go_ret3
    exact HB.out
set_option maxHeartbeats 2000000 in
set_option maxRecDepth 100000 in
theorem behind_inter (t : List File) (p q : List Change) (n : Int) (vt vp vq : Value) (w : World) (ht : Rdv w Never vt t) (hp : Rdv w Never vp p) (hq : Rdv w Never vq q) (hn : I64 n) :
    Calls Tryz.prog 14 #[vt, vp, vq, .bool true, .int .i64 n] w fun e w' => BehPost t p q t n w e w' := by
  obtain ⟨ta, tc, rfl, _, _, _⟩ := rdv_slice ht
  unfold I64 at hn
  go_enter Tryz.func14, Tryz.ntmps14
  go_wp2_with fail
  refine (refApply_any t p _ _ _ ht hp).mono ?_
  rintro e w1 ⟨rb, rfl, hw, hrb⟩
  by_cases z : (applyR t p).2.2 = 0
  · have Z := Lib.hid z
    rw [z]
    clear z
    obtain ⟨ba, bc, rfl, _, _, _⟩ := rdv_slice hrb
    go_wp2_with fail
    refine (refApply_any t q _ _ _ ((ht.never hw)) (hq.never hw)).mono ?_
    rintro e w2 ⟨rc, rfl, hc2, hrc⟩
    have hw := hw.trans hc2
    have hrb := hrb.never hc2
    clear hc2
    by_cases y : (applyR t q).2.2 = 0
    · rw [y]
      have HF := Lib.hid (@behF_n t p q t n Z.out y)
      clear y
      obtain ⟨ca, cc, rfl, _, _, _⟩ := rdv_slice hrc
      by_cases hr : n < 0 ∨ 1000 < n
      · have HB := Lib.hid (beh_bad (HF.out.trans (if_pos hr)) (by decide) hw)
        clear HF
        rcases hr with hr | hr
        · go_wp2_with fail
          go_ret3
          exact HB.out
        · have r0 : ¬ n < 0 := by omega
          go_wp2_with fail
          go_ret3
          exact HB.out
      · have r0 : ¬ n < 0 := by omega
        have r1 : ¬ 1000 < n := by omega
        have HB := Lib.hid (beh_ok (HF.out.trans (if_neg hr)) hw hrb hrc)
        clear HF hr
        go_wp2_with fail
        go_ret3
        exact HB.out
    · have HB := Lib.hid (beh_bad (n := n) (behF_q Z.out y) y hw)
      have y0 : ((applyR t q).2.2 == 0) = false := by simp [y]
      have y0' : ((applyR t q).2.2 != 0) = true := by simp [y]
      clear y hrc
      go_wp2_with fail
      go_ret3
      exact HB.out
  · have HB := Lib.hid (beh_bad (q := q) (D := t) (n := n) (behF_p z) z hw)
    have z0 : ((applyR t p).2.2 == 0) = false := by simp [z]
    have z0' : ((applyR t p).2.2 != 0) = true := by simp [z]
    clear z hrb
    go_wp2_with fail
    go_ret3
    exact HB.out
end Go.Proofs.YteocmmejfnmjcaaGreatDoor
