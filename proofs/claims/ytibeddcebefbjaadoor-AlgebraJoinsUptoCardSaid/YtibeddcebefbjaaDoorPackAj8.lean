/-
  PARTS: THE WALKS OF LAYER 4: slices.Clone, hunk.Copy.; A BOX OF TWO CELLS, and of three (Blk3: XTurn). No program in sight.; THE WALKS of tree.Copy, and of slices.Concat of files.; WHAT THE DOCUMENT'S WAY BETWEEN TWO TREES NEEDS, in plain Lean: places and lookups, the merged list's length, what Make answers of valid lines.; THE WALK of patch.Apply.; THE WALKS of errors.Join of no error, and of patch.Turn.; THE WALK of handstitchsame.Trees.; THE LAW PatchBack, walked.; MORE ON SLICES THAT append HAS BUILT.; THE WALKS of patch.all and of the document's whole.
-/
import Derived.Test.YtibeddcebefbjaaDoorPackAj5
import Derived.Test.YtibeddcebefbjaaDoorPackAj2
import Derived.Test.YtibeddcebefbjaaDoorPackAj7
import Derived.Test.YtibeddcebefbjaaDoorPackAj6
import Derived.Test.YtibeddcebefbjaaDoorPackAj4
import Derived.StillTailTactics
import Derived.Test.YtibeddcebefbjaaDoorPackAj3
namespace Go.Proofs.YtibeddcebefbjaaDoor
open Go.RowKit

theorem rd_mark_any (w : World) (O O' : Nat → Prop) : ∀ cs (y : Mark), Dat.rd w O cs y → Dat.rd w O' cs y := fun _ _ h => h
theorem own_made {α : Type} [Dat α] (w : World) (e : TypeId) : Own e (w.alloc (.cells #[] e)) (Old w.heap.size) (.slice (some ⟨w.heap.size, 0, none⟩) 0 0) ([] : List α) :=
  ⟨[], World.ownsRow_made w #[] 0 (Nat.zero_le _) (by unfold maxLen; omega) (by simp), fun k hk ho => by
    simp only [Value.ownBlock, Option.some.injEq] at hk
    subst hk
    unfold Old at ho
    omega, fun i x hi => by simp at hi⟩

set_option maxHeartbeats 800000 in
set_option maxRecDepth 100000 in
theorem clone_str (O : Nat → Prop) (l : List ByteArray) (v : Value) (w : World) (h : Rdv w O v l) (hl : l.length ≤ 1000000) :
    Calls Tryd.prog 43 #[v] w fun e w' => ∃ r, e = .returned r ∧ Chg Never w w' ∧ Own 9 w' (Old w.heap.size) r l := by
  obtain ⟨a, cap, rfl, h1, h2, h3⟩ := rdv_slice h
  unfold maxLen at h2
  cases a with
  | none =>
    have hn : l = [] := by
      cases l with
      | nil => rfl
      | cons x l =>
        obtain ⟨b, off, es, ha, _⟩ := h3 0 x rfl
        cases ha
    subst hn
    have he : ∀ wx, (binOp .eql 35 (.slice none 0 cap) (.slice none 0 0)).run Tryd.prog wx = .ok (.bool true) wx := fun wx => Lib.run_eql_slice_nil wx 35 9 none 0 cap 0 0 Tryd.underlying35
    go_enter Tryd.func43, Tryd.ntmps43
    go_wp2_with fail
    go_ret
    exact ⟨_, rfl, Chg.refl _ _, own_nil _ _ _⟩
  | some a =>
    have hm := own_made (α := ByteArray) w 9
    have hA : Chg Never w (w.alloc (.cells #[] 9)) := (Chg.refl Never w).alloc _
    have hr := (h.sub (O' := Never) (fun _ _ h => h.elim)).never hA
    have hO : ∀ k, Old w.heap.size k → k < (w.alloc (.cells #[] 9)).heap.size := by
      intro k hk
      unfold Old at hk
      simp
      omega
    have hle : ([] : List ByteArray).length + l.length ≤ 1000000000 := by simp; omega
    clear h3 h
    have he : ∀ wx, (binOp .eql 35 (.slice (some a) l.length cap) (.slice none 0 0)).run Tryd.prog wx = .ok (.bool false) wx := fun wx => Lib.run_eql_slice_nil wx 35 9 (some a) l.length cap 0 0 Tryd.underlying35
    go_enter Tryd.func43, Tryd.ntmps43
    go_wp2_with (at_builtin; refine wpList_many (by rfl) _ _ 35 (by rfl) elemOk_str (O := Old w.heap.size) (by rfl) (by rfl) hm hr (rd_str_any _ _ _) hO hle ?_; intro v' w5 hown2 hc2)
    have hc3 := own_step hA hm hc2
    clear hm hr hc2
    go_wp2_with fail
    go_ret
    exact ⟨_, rfl, hc3, hown2⟩
set_option maxHeartbeats 800000 in
set_option maxRecDepth 100000 in
theorem clone_mark (O : Nat → Prop) (l : List Mark) (v : Value) (w : World) (h : Rdv w O v l) (hl : l.length ≤ 1000000) :
    Calls Tryd.prog 85 #[v] w fun e w' => ∃ r, e = .returned r ∧ Chg Never w w' ∧ Own 66 w' (Old w.heap.size) r l := by
  obtain ⟨a, cap, rfl, h1, h2, h3⟩ := rdv_slice h
  unfold maxLen at h2
  cases a with
  | none =>
    have hn : l = [] := by
      cases l with
      | nil => rfl
      | cons x l =>
        obtain ⟨b, off, es, ha, _⟩ := h3 0 x rfl
        cases ha
    subst hn
    have he : ∀ wx, (binOp .eql 22 (.slice none 0 cap) (.slice none 0 0)).run Tryd.prog wx = .ok (.bool true) wx := fun wx => Lib.run_eql_slice_nil wx 22 66 none 0 cap 0 0 Tryd.underlying22
    go_enter Tryd.func85, Tryd.ntmps85
    go_wp2_with fail
    go_ret
    exact ⟨_, rfl, Chg.refl _ _, own_nil _ _ _⟩
  | some a =>
    have hm := own_made (α := Mark) w 66
    have hA : Chg Never w (w.alloc (.cells #[] 66)) := (Chg.refl Never w).alloc _
    have hr := (h.sub (O' := Never) (fun _ _ h => h.elim)).never hA
    have hO : ∀ k, Old w.heap.size k → k < (w.alloc (.cells #[] 66)).heap.size := by
      intro k hk
      unfold Old at hk
      simp
      omega
    have hle : ([] : List Mark).length + l.length ≤ 1000000000 := by simp; omega
    clear h3 h
    have he : ∀ wx, (binOp .eql 22 (.slice (some a) l.length cap) (.slice none 0 0)).run Tryd.prog wx = .ok (.bool false) wx := fun wx => Lib.run_eql_slice_nil wx 22 66 (some a) l.length cap 0 0 Tryd.underlying22
    go_enter Tryd.func85, Tryd.ntmps85
    go_wp2_with (at_builtin; refine wpList_many (by rfl) _ _ 22 (by rfl) elemOk_mark (O := Old w.heap.size) (by rfl) (by rfl) hm hr (rd_mark_any _ _ _) hO hle ?_; intro v' w5 hown2 hc2)
    have hc3 := own_step hA hm hc2
    clear hm hr hc2
    go_wp2_with fail
    go_ret
    exact ⟨_, rfl, hc3, hown2⟩

set_option maxHeartbeats 800000 in
set_option maxRecDepth 100000 in
theorem copy_any (h : Hunk) (mv : Value) (w : World) (hm : Rdv w Never mv h.marks) (hl : h.marks.length ≤ 120) :
    Calls Tryd.prog 61 #[.agg #[.int .i64 h.old, .int .i64 h.new, mv]] w fun e w' => ∃ r, e = .returned (.agg #[.int .i64 h.old, .int .i64 h.new, r]) ∧ Chg Never w w' ∧ Rdv w' (Old w.heap.size) r h.marks := by
  obtain ⟨o, n, l⟩ := h
  simp only at hm hl ⊢
  obtain ⟨a, cap, rfl, h1, h2, h3⟩ := rdv_slice hm
  have hA : Chg Never w ((w.alloc (.cells #[.int .i64 o, .int .i64 n, .slice a l.length cap] 24)).alloc (.cells #[.int .i64 0, .int .i64 0, .slice none 0 0] 24)) := ((Chg.refl Never w).alloc _).alloc _
  have hP : Blk3 ((w.alloc (.cells #[.int .i64 o, .int .i64 n, .slice a l.length cap] 24)).alloc (.cells #[.int .i64 0, .int .i64 0, .slice none 0 0] 24)) w.heap.size 24 (.int .i64 o) (.int .i64 n) (.slice a l.length cap) :=
    (Blk3.new w 24 (.int .i64 o) (.int .i64 n) (.slice a l.length cap)).keep (O := Never) ((Chg.refl _ _).alloc _) (fun h => h)
  have hR : Blk3 ((w.alloc (.cells #[.int .i64 o, .int .i64 n, .slice a l.length cap] 24)).alloc (.cells #[.int .i64 0, .int .i64 0, .slice none 0 0] 24)) (w.heap.size + 1) 24 (.int .i64 0) (.int .i64 0) (.slice none 0 0) := by
    have := Blk3.new (w.alloc (.cells #[.int .i64 o, .int .i64 n, .slice a l.length cap] 24)) 24 (.int .i64 0) (.int .i64 0) (.slice none 0 0)
    rw [World.size_alloc] at this
    exact this
  go_enter Tryd.func61, Tryd.ntmps61
  go_wp2_with fail
  refine (clone_mark Never l _ _ (hm.never hA) (by omega)).mono ?_
  rintro e w2 ⟨r, rfl, hc2, hown⟩
  obtain ⟨ra, rn, rc, rfl⟩ := own_isSlice hown
  have hP2 := hP.keep hc2 (fun h => h)
  have hR2 := hR.keep hc2 (fun h => h)
  have hc := hA.trans hc2
  have hown' := hown.keep (O'' := Old (w.heap.size + 2)) (Chg.refl Never _) (fun _ _ h => h.elim) (fun j _ hj => by unfold Old at *; simp; omega)
  have hP3 := hP2.set2 (.slice ra rn rc)
  have hR3 := hR2.keep (O := fun j => j = w.heap.size) ((Chg.refl (fun j => j = w.heap.size) w2).setCell (p := ⟨w.heap.size, 2, none⟩) (.inr rfl) (.slice ra rn rc)) (by omega)
  have hS : Chg (fun j => j = w.heap.size ∨ j = w.heap.size + 1) w2 ((((w2.setCell ⟨w.heap.size, 2, none⟩ (.slice ra rn rc)).setCell ⟨w.heap.size + 1, 0, none⟩ (.int .i64 o)).setCell ⟨w.heap.size + 1, 1, none⟩ (.int .i64 n)).setCell ⟨w.heap.size + 1, 2, none⟩ (.slice ra rn rc)) :=
    ((((Chg.refl (fun j => j = w.heap.size ∨ j = w.heap.size + 1) w2).setCell (p := ⟨w.heap.size, 2, none⟩) (.inr (.inl rfl)) _).setCell (p := ⟨w.heap.size + 1, 0, none⟩) (.inr (.inr rfl)) _).setCell (p := ⟨w.heap.size + 1, 1, none⟩) (.inr (.inr rfl)) _).setCell (p := ⟨w.heap.size + 1, 2, none⟩) (.inr (.inr rfl)) _
  have hr := (hown'.keep (O'' := Old w.heap.size) hS (fun j _ h => by unfold Old; omega) (fun j _ h => by unfold Old at *; omega)).rdv
  have hcF := hc.trans' hS (O := Never) (fun j hj h => by omega)
  obtain ⟨f0, f1, f2⟩ := (((hR3.set0 (.int .i64 o)).set1 (.int .i64 n)).set2 (.slice ra rn rc)).cell
  obtain ⟨p0, p1, p2⟩ := hP2.cell
  have pf := hP2.free
  obtain ⟨q0, q1, q2⟩ := hP3.cell
  obtain ⟨r0, r1, r2⟩ := hR3.cell
  have rf := hR3.free
  clear hS hown' hown hP hR hP3 hR3 hP2 hR2 hA hc2 hc h3 hm
  go_wp2_with fail
  exact bodyPost_ret (v := .agg #[.int .i64 o, .int .i64 n, .slice ra rn rc]) (by simp [results, Tryd.results61, go_sem, f0, f1, f2]) rfl ⟨_, rfl, hcF, hr⟩
end Go.Proofs.YtibeddcebefbjaaDoor
namespace Go.Proofs.YtibeddcebefbjaaDoor
open Go.RowKit

/-- block B holds two cells of its own -/
def Blk2 (w : World) (B : Nat) (t : TypeId) (x y : Value) : Prop := w.heap[B]? = some (.cells #[x, y] t (0, 0))
theorem Blk2.cell {w : World} {B : Nat} {t : TypeId} {x y : Value} (h : Blk2 w B t x y) : w.cell? ⟨B, 0, none⟩ = some x ∧ w.cell? ⟨B, 1, none⟩ = some y := by
  unfold Blk2 at h
  refine ⟨?_, ?_⟩ <;> (unfold World.cell?; rw [h]; rfl)
theorem Blk2.free {w : World} {B : Nat} {t : TypeId} {x y : Value} (h : Blk2 w B t x y) (j : Nat) : w.frozen? ⟨B, j, none⟩ = false := by
  unfold Blk2 at h
  unfold World.frozen?; rw [h]; simp
theorem Blk2.lt {w : World} {B : Nat} {t : TypeId} {x y : Value} (h : Blk2 w B t x y) : B < w.heap.size := (Array.getElem?_eq_some_iff.1 h).1
theorem Blk2.keep {w w' : World} {B : Nat} {t : TypeId} {x y : Value} {O : Nat → Prop} (h : Blk2 w B t x y) (hc : Chg O w w') (hB : ¬ O B) : Blk2 w' B t x y := by
  unfold Blk2 at *
  rw [hc.block B (Array.getElem?_eq_some_iff.1 h).1 hB]
  exact h
theorem Blk2.set1 {w : World} {B : Nat} {t : TypeId} {x y : Value} (h : Blk2 w B t x y) (u : Value) : Blk2 (w.setCell ⟨B, 1, none⟩ u) B t x u := by
  unfold Blk2 at *
  simp [World.setCell, Array.getElem?_modify, h]
theorem Blk2.new (w : World) (t : TypeId) (x y : Value) : Blk2 (w.alloc (.cells #[x, y] t)) w.heap.size t x y := heap_alloc_new _ _
end Go.Proofs.YtibeddcebefbjaaDoor
namespace Go.Proofs.YtibeddcebefbjaaDoor
open Go.RowKit

theorem take_snoc {α : Type} {l : List α} {k : Nat} {x : α} (hx : l[k]? = some x) : l.take (k + 1) = l.take k ++ [x] := by rw [List.take_add_one, hx]; rfl
set_option maxHeartbeats 2000000 in
set_option maxRecDepth 100000 in
theorem tree_copy_any (t : List File) (v : Value) (w : World) (h : Rdv w Never v t) (hl : t.length ≤ 1000000) (hll : ∀ f ∈ t, f.lines.length ≤ 1000000) :
    Calls Tryd.prog 41 #[v] w fun e w' => ∃ r, e = .returned r ∧ Chg Never w w' ∧ Own 37 w' (Old w.heap.size) r t := by
  obtain ⟨a, cap, rfl, h1, h2, h3⟩ := rdv_slice h
  unfold maxLen at h2
  go_enter Tryd.func41, Tryd.ntmps41
  go_wp2_with fail
  go_loopw [3, 8] (fun o i wr => ∃ k : Nat, k ≤ t.length ∧ i = .int .i64 k ∧ Chg Never w wr ∧ Own 37 wr (Old w.heap.size) o (t.take k)) (fun _ i _ => t.length - (intOf i).toNat)
  case atStart => exact ⟨0, Nat.zero_le _, rfl, Chg.refl _ _, own_nil _ _ _⟩
  case round =>
    obtain ⟨k, hk, rfl, hc, hown⟩ := hrel
    by_cases hlt : k < t.length
    · obtain ⟨x, hx⟩ : ∃ x, t[k]? = some x := ⟨t[k], by simp [hlt]⟩
      obtain ⟨b, off, lv, rfl, _, _, c0, c1, hps, hlv⟩ := elems_file h3 hx
      obtain ⟨la, lcap, rfl, _, _, _⟩ := rdv_slice hlv
      have hxl := hll x (List.mem_of_getElem? hx)
      have c0 := hc.cellNever c0
      have c1 := hc.cellNever c1
      have HT := Lib.hid (take_snoc hx)
      have htl : (t.take k).length ≤ 1000000000 := Nat.le_trans (List.length_take_le _ _) (by omega)
      have hsz := hc.size
      have holt := own_block_lt hown
      have hA : Chg Never wr (wr.alloc (.cells #[.string x.path, .slice la x.lines.length lcap] 37)) := (Chg.refl Never wr).alloc _
      have hBX := Blk2.new wr 37 (.string x.path) (.slice la x.lines.length lcap)
      have hownA := hown.keep (O'' := fun j => Old w.heap.size j ∨ j = wr.heap.size) hA (fun _ _ hh => hh.elim) (by rintro j hj (hh | rfl); exact hh; exact absurd hj (Nat.lt_irrefl _))
      have hlvA := (hlv.never hc).never hA
      have hcA := hc.trans hA
      have hBlt := hBX.lt
      obtain ⟨b0, b1⟩ := hBX.cell
      clear hx h3 h hown hlv
      go_wp2_with fail
      generalize wr.alloc (.cells #[.string x.path, .slice la x.lines.length lcap] 37) = w3 at hBX hownA hlvA hcA hBlt b0 b1 hA ⊢
      generalize hBe : wr.heap.size = B at hBX hownA hBlt b0 b1 hsz holt ⊢
      clear hc hA hBe
      refine (clone_str Never x.lines _ _ hlvA hxl).mono ?_
      rintro e w4 ⟨r4, rfl, hc4, hown4⟩
      obtain ⟨ra, rn, rc, rfl⟩ := own_isSlice hown4
      have hB4 := hBX.keep hc4 (fun h => h)
      have b3 := hB4.free
      have hB5 := hB4.set1 (.slice ra rn rc)
      obtain ⟨b0, b1⟩ := hB4.cell
      obtain ⟨k0, k1⟩ := hB5.cell
      have hS : Chg (fun j => j = B) w4 (w4.setCell ⟨B, 1, none⟩ (.slice ra rn rc)) := (Chg.refl (fun j => j = B) w4).setCell (p := ⟨B, 1, none⟩) (.inr rfl) _
      have hown5 := (hownA.never hc4).keep (O'' := Old w.heap.size) hS (fun j _ hh => .inr hh) (fun j _ hh => .inl hh)
      have hr := (hown4.keep (O'' := Old w3.heap.size) hS (fun j _ hh => by subst hh; exact hBlt) (fun _ _ hh => hh)).rdv
      have hc5 := (hcA.trans hc4).setCell (p := ⟨B, 1, none⟩) (.inl hsz) (.slice ra rn rc)
      have hszw := hcA.size
      have hy : Dat.rd (w4.setCell ⟨B, 1, none⟩ (.slice ra rn rc)) (fun j => Old w.heap.size j ∨ u3.ownBlock = some j) [.string x.path, .slice ra rn rc] x := ⟨_, rfl, hps, hr.sub (fun j _ hh => by
        rcases hh with hh | hh
        · exact Nat.lt_of_lt_of_le hh hszw
        · exact Nat.lt_trans (holt j hh) hBlt)⟩
      clear hr hS hB4 hBX hown4 hc4 hownA hcA hlvA hB5
      go_wp2_with (at_builtin; refine wpList_push (by rfl) _ _ 34 (by rfl) elemOk_file (O := Old w.heap.size) (l := t.take k) (y := x) (by rfl) (by rfl) (by simp) hown5 hy (old_lt hc5) htl ?_; intro v' w6 hown6 hc6 _)
      have hc7 := own_step hc5 hown5 hc6
      clear hc6 hown5 hy
      go_wp2_with fail
      go_roundw
      case rel => exact ⟨k + 1, by omega, by go_num, hc7, by rw [HT.out]; exact hown6⟩
      case measure => simp [intOf] <;> omega
    · rw [List.take_of_length_le (by omega)] at hown
      go_wp2_with fail
      go_ret
      exact ⟨_, rfl, hc, hown⟩
end Go.Proofs.YtibeddcebefbjaaDoor
namespace Go.Proofs.YtibeddcebefbjaaDoor

theorem place_cons (x : File) (r : List File) (p : ByteArray) : placeOf (x :: r) p = if x.path = p then some 0 else (placeOf r p).map (· + 1) := by
  unfold placeOf
  rw [List.findIdx?_cons]
  by_cases h : x.path = p
  · rw [if_pos h, decide_eq_true h]; rfl
  · rw [if_neg h, decide_eq_false h]; rfl
/-- a place and a lookup are the same -/
theorem place_look : ∀ (t : List File) (p : ByteArray), (placeOf t p = none ∧ look t p = none) ∨ ∃ i f, placeOf t p = some i ∧ t[i]? = some f ∧ look t p = some f.lines
  | [], p => .inl ⟨rfl, rfl⟩
  | x :: r, p => by
    rw [place_cons, look_cons]
    by_cases h : x.path = p
    · exact .inr ⟨0, x, if_pos h, rfl, if_pos h⟩
    · rw [if_neg h, if_neg h]
      rcases place_look r p with ⟨h1, h2⟩ | ⟨i, f, h1, h2, h3⟩
      · exact .inl ⟨by rw [h1]; rfl, h2⟩
      · exact .inr ⟨i + 1, f, by rw [h1]; rfl, by rw [List.getElem?_cons_succ]; exact h2, h3⟩
theorem placeI_look (t : List File) (p : ByteArray) : (placeI t p = -1 ∧ look t p = none) ∨ ∃ (i : Nat) (f : File), placeI t p = i ∧ t[i]? = some f ∧ look t p = some f.lines := by
  rcases place_look t p with ⟨h1, h2⟩ | ⟨i, f, h1, h2, h3⟩
  · exact .inl ⟨by unfold placeI; rw [h1], h2⟩
  · exact .inr ⟨i, f, by unfold placeI; rw [h1], h2, h3⟩
theorem allOf_len : ∀ (b a : List File), Sorted a → (allOf a b).length ≤ a.length + b.length
  | [], a, _ => Nat.le_refl _
  | x :: r, a, h => by
    have := allOf_len r (putAt a x) (putAt_sorted h x)
    have e := putAt_len h x
    have : (putAt a x).length ≤ a.length + 1 := by rw [e]; split <;> omega
    show (allOf (putAt a x) r).length ≤ _
    rw [List.length_cons]; omega
theorem all_step (a b : List File) {k : Nat} {x : File} (h : b[k]? = some x) : allOf a (b.take (k + 1)) = putAt (allOf a (b.take k)) x := by
  unfold allOf
  rw [List.take_add_one, h, List.foldl_append]; rfl
theorem sorted_take {b : List File} (h : Sorted b) (k : Nat) : Sorted (b.take k) := List.Pairwise.sublist (List.take_sublist _ _) h
/-- each of all is in one of both -/
theorem all_known {a b : List File} (h : Sorted a) (g : Sorted b) {f : File} (hf : f ∈ allOf a b) : ¬ (look a f.path = none ∧ look b f.path = none) := by
  rintro ⟨h1, h2⟩
  have e := look_mem (all_sorted b a h) hf
  rw [all_look _ b a h g, h1, h2] at e
  cases e
theorem flat_take {β : Type} {g : File → List β} {l : List File} {k : Nat} {x : File} (h : l[k]? = some x) : (l.take (k + 1)).flatMap g = (l.take k).flatMap g ++ g x := by
  rw [List.take_add_one, h, List.flatMap_append]; simp
theorem fileFault_lines {f : File} (h : fileFault f = 0) : linesFault f.lines = 0 := by
  unfold fileFault at h
  by_cases e : pathFault f.path = 0
  · rwa [if_pos e] at h
  · rw [if_neg e] at h; exact absurd h e
theorem checked_zero {x y : List ByteArray} (h : linesFault x = 0) (g : linesFault y = 0) : checkedFault x y = 0 := by unfold checkedFault; rw [if_pos h]; exact g
/-- of valid lines Make tells no fault -/
theorem make_valid {x y : List ByteArray} {n : Int} (h : linesFault x = 0) (g : linesFault y = 0) (n0 : 0 ≤ n) (n1 : n ≤ 1000) : makeFault x y n = 0 ∧ makeR x y n = cutOf (script x y) n := by
  have hc := checked_zero h g
  have hs := script_valid hc
  have e1 : (oldOf (script x y)).length = oldN (script x y) := rfl
  have e2 : (newOf (script x y)).length = newN (script x y) := rfl
  rw [script_old] at e1
  rw [script_new] at e2
  have l1 := linesFault_len h
  have l2 := linesFault_len g
  have hcut : cutFault (script x y) n = 0 := by
    unfold cutFault
    rw [if_neg (by rw [hs]; decide), if_neg (by omega), if_neg (by omega)]
  exact ⟨by unfold makeFault; rw [if_neg (by rw [hc]; decide)]; exact hcut, by unfold makeR cutR; rw [if_pos hc, if_pos hcut]⟩
/-! ### what lies between, step by step -/
theorem diffL_take {n : Int} {x : File} {a b : List File} (h : b = [] ∨ ∃ y r, b = y :: r ∧ less x.path y.path = true) : diffL n (x :: a) b = ⟨3, x.path, wholeR x.lines 45⟩ :: diffL n a b := by
  rcases h with rfl | ⟨y, r, rfl, h⟩
  · rw [diffL]
  · rw [diffL, if_pos h]
theorem diffL_put {n : Int} {y : File} {a b : List File} (h : a = [] ∨ ∃ x r, a = x :: r ∧ ¬ less x.path y.path = true ∧ less y.path x.path = true) : diffL n a (y :: b) = ⟨2, y.path, wholeR y.lines 43⟩ :: diffL n a b := by
  rcases h with rfl | ⟨x, r, rfl, h, g⟩
  · rw [diffL]
  · rw [diffL, if_neg h, if_pos g]
theorem diffL_both {n : Int} {x y : File} {a b : List File} (h : ¬ less x.path y.path = true) (g : ¬ less y.path x.path = true) : diffL n (x :: a) (y :: b) = chg n x.path (some x.lines) (some y.lines) ++ diffL n a b := by
  rw [diffL, if_neg h, if_neg g]
theorem diffL_nil (n : Int) : diffL n [] [] = [] := by rw [diffL]
theorem chg_none {n : Int} {p : ByteArray} {x y : List ByteArray} (h : cutOf (script x y) n = []) : chg n p (some x) (some y) = [] := if_pos h
theorem chg_some {n : Int} {p : ByteArray} {x y : List ByteArray} (h : cutOf (script x y) n ≠ []) : chg n p (some x) (some y) = [⟨1, p, cutOf (script x y) n⟩] := if_neg h
end Go.Proofs.YtibeddcebefbjaaDoor
namespace Go.Proofs.YtibeddcebefbjaaDoor
open Go.RowKit

theorem apply_step {T : List File} {p : List Change} {k : Nat} {c : Change} (hd : p.drop k = c :: p.drop (k + 1)) (hz : (stepOf (look T c.path) c).2 = 0) : applyGo k T (p.drop k) = applyGo (k + 1) (setAt T c.path (stepOf (look T c.path) c).1) (p.drop (k + 1)) := by
  rw [hd, applyGo, if_neg (by rw [hz]; decide)]
theorem apply_bad {T : List File} {p : List Change} {k : Nat} {c : Change} (hd : p.drop k = c :: p.drop (k + 1)) (hz : (stepOf (look T c.path) c).2 ≠ 0) : applyGo k T (p.drop k) = ([], k, (stepOf (look T c.path) c).2) := by
  rw [hd, applyGo, if_pos hz]
theorem apply_end {T : List File} {p : List Change} : applyGo p.length T (p.drop p.length) = (T, 0, 0) := by rw [List.drop_length]; rfl
theorem find_is {T : List File} (hs : Sorted T) {p : ByteArray} (h : isAt T p = true) : ∃ f, T[posOf T p]? = some f ∧ f.path = p ∧ look T p = some f.lines ∧ posOf T p < T.length := by
  unfold isAt at h
  cases hf : T[posOf T p]? with
  | none => rw [hf] at h; cases h
  | some f =>
    rw [hf, Option.any_some] at h
    have hp := of_decide_eq_true h
    have := look_mem hs (List.mem_of_getElem? hf)
    rw [hp] at this
    exact ⟨f, rfl, hp, this, (List.getElem?_eq_some_iff.1 hf).1⟩
theorem find_not {T : List File} (hs : Sorted T) {p : ByteArray} (h : isAt T p = false) : look T p = none ∧ posOf T p ≤ T.length := by
  obtain ⟨A, C, h1, h2, _, _, h5, h6⟩ := tree_split hs p
  rcases h6 with ⟨h6, _⟩ | ⟨_, rfl⟩
  · rw [h6] at h; cases h
  · refine ⟨look_none fun x hx => ?_, by rw [h5, List.length_append]; omega⟩
    rcases List.mem_append.1 hx with hx | hx
    · exact less_ne (h1 x hx)
    · exact (less_ne (h2 x hx)).symm
theorem set_put {T : List File} {p : ByteArray} {l : List ByteArray} (h : isAt T p = false) : setAt T p (some l) = insAt T (posOf T p) ⟨p, l⟩ := by
  show putAt T ⟨p, l⟩ = _
  unfold putAt insAt
  rw [if_neg (by rw [h]; decide)]
theorem set_edit {T : List File} {p : ByteArray} {l : List ByteArray} (h : isAt T p = true) (hl : posOf T p < T.length) : setAt T p (some l) = insAt (dropAt T (posOf T p)) (posOf T p) ⟨p, l⟩ := by
  show putAt T ⟨p, l⟩ = _
  unfold putAt insAt dropAt
  have e : (T.take (posOf T p)).length = posOf T p := by rw [List.length_take]; omega
  rw [if_pos h]
  show _ = (T.take (posOf T p) ++ T.drop (posOf T p + 1)).take (posOf T p) ++ ⟨p, l⟩ :: (T.take (posOf T p) ++ T.drop (posOf T p + 1)).drop (posOf T p)
  congr 1
  · conv => rhs; arg 1; rw [← e]
    rw [List.take_left]
  · congr 1
    conv => rhs; arg 1; rw [← e]
    rw [List.drop_left]
theorem ins_len {T : List File} {i : Nat} {f : File} (h : i ≤ T.length) : (insAt T i f).length = T.length + 1 := by unfold insAt; rw [List.length_append, List.length_take, List.length_cons, List.length_drop]; omega
theorem drop_len {T : List File} {i : Nat} (h : i < T.length) : (dropAt T i).length = T.length - 1 := by unfold dropAt; rw [List.length_append, List.length_take, List.length_drop]; omega
theorem done_ok {there : Bool} {L : List ByteArray} {c : Change} (z : (doneR there L c).2.2 = 0) : (c.what = 2 → there = false) ∧ (c.what ≠ 2 → there = true) ∧ (doneR there L c).2.1 = decide (c.what ≠ 3) := by
  unfold doneR at z ⊢
  by_cases h1 : c.what = 2 ∧ there = true
  · rw [if_pos h1] at z; cases z
  · rw [if_neg h1] at z ⊢
    by_cases h2 : c.what ≠ 2 ∧ there = false
    · rw [if_pos h2] at z; cases z
    · rw [if_neg h2] at z ⊢
      by_cases h3 : (strict L c.hunks).2.2 ≠ 0
      · rw [if_pos h3] at z; exact absurd z h3
      · rw [if_neg h3] at z ⊢
        by_cases h4 : c.what = 3 ∧ (strict L c.hunks).1 ≠ []
        · rw [if_pos h4] at z; cases z
        · rw [if_neg h4]
          refine ⟨fun e => ?_, fun e => ?_, rfl⟩
          · cases there with
            | false => rfl
            | true => exact absurd ⟨e, rfl⟩ h1
          · cases there with
            | true => rfl
            | false => exact absurd ⟨e, rfl⟩ h2
theorem applyR_tree {t : List File} {p : List Change} (h : (treeFault t).2 ≠ 0) : applyR t p = ([], 0, (treeFault t).2) := if_pos h
theorem applyR_patch {t : List File} {p : List Change} (h : (treeFault t).2 = 0) (g : (patchFault p).2 ≠ 0) : applyR t p = ([], (patchFault p).1, (patchFault p).2) := by unfold applyR; rw [if_neg (by rw [h]; decide), if_pos g]
theorem applyR_go {t : List File} {p : List Change} (h : (treeFault t).2 = 0) (g : (patchFault p).2 = 0) {r : List File} {k : Nat} {e : Int} (x : applyGo 0 t p = (r, k, e)) : applyR t p = if e ≠ 0 then (r, k, e) else if 8 < r.length then ([], 0, 3) else (r, 0, 0) := by
  unfold applyR; rw [if_neg (by rw [h]; decide), if_neg (by rw [g]; decide), x]
def ApplyPost (t : List File) (p : List Change) (w : World) (e : Ending) (w' : World) : Prop := ∃ r, e = .returned (.tuple #[r, .int .i64 (applyR t p).2.1, errV (applyR t p).2.2]) ∧ Chg Never w w' ∧ Rdv w' Never r (applyR t p).1
theorem applyPost_bad {t : List File} {p : List Change} {k : Nat} {e : Int} {w w' : World} (h : applyR t p = ([], k, e)) (hc : Chg Never w w') : ApplyPost t p w (.returned (.tuple #[.slice none 0 0, .int .i64 k, errV e])) w' :=
  ⟨_, by rw [h], hc, by rw [h]; exact rdv_nil _ _⟩
theorem applyPost_ok {t R : List File} {p : List Change} {w w' : World} {r : Value} (h : applyR t p = (R, 0, 0)) (hc : Chg Never w w') (hr : Rdv w' Never r R) : ApplyPost t p w (.returned (.tuple #[r, .int .i64 0, .nilIface])) w' :=
  ⟨r, by rw [h]; rfl, hc, by rw [h]; exact hr⟩
theorem own_weak {α : Type} [Dat α] {e : TypeId} {w0 w w' : World} {v : Value} {l : List α} (h : Own e w' (Old w.heap.size) v l) (hc : Chg Never w0 w) (hc' : Chg Never w w') : OwnN e w0 w' v l :=
  ⟨h.keep (O'' := Never) (Chg.refl Never w') (fun _ _ h => h.elim) (fun _ _ h => h.elim), fun k hk => by
    obtain ⟨_, _, q, _⟩ := h
    have := q k hk
    have hs := hc.size
    unfold Old at this
    omega, hc.trans hc'⟩
set_option maxHeartbeats 4000000 in
set_option maxRecDepth 100000 in
theorem apply_any (t : List File) (p : List Change) (vt vp : Value) (w : World) (ht : Rdv w Never vt t) (hp : Rdv w Never vp p) (m : Int) (hm : w.cell? ⟨1, 0, none⟩ = some (.int .i64 m)) :
    Calls Tryd.prog 26 #[vt, vp] w fun e w' => ApplyPost t p w e w' := by
  obtain ⟨ta, tcap, rfl, _, _, _⟩ := rdv_slice ht
  obtain ⟨pa, pcap, rfl, p1, p2, _⟩ := rdv_slice hp
  unfold maxLen at p2
  by_cases z : (treeFault t).2 = 0
  · have Z := Lib.hid z
    by_cases y : (patchFault p).2 = 0
    · have Y := Lib.hid y
      have t8 := (treeFault_zero z).1
      have tl := (treeFault_zero z).2.1
      have tsrt := Lib.hid (treeFault_zero z).2.2.1
      have pl := (patch_of y).1
      have tl60 : ∀ f ∈ t, f.lines.length ≤ 1000000 := fun f hf => by
        have := linesFault_len (fileFault_lines (tl f hf))
        omega
      clear z y tl
      go_enter Tryd.func26, Tryd.ntmps26
      go_wp2_with fail
      refine (tree_check_any t _ _ ht m hm).mono ?_
      rintro e w1 ⟨rfl, hw⟩
      rw [Z.out, errV_zero]
      go_wp2_with fail
      refine (patch_check_any p _ _ (hp.never hw) m (hw.cellNever hm)).mono ?_
      rintro e w2 ⟨rfl, hc2⟩
      have hw := hw.trans hc2
      clear hc2
      rw [Y.out, errV_zero]
      go_wp2_with fail
      refine (tree_copy_any t _ _ (ht.never hw) (by omega) tl60).mono ?_
      rintro e w3 ⟨r3, rfl, hc3, hown⟩
      have hn0 := own_weak hown hw hc3
      clear hown hc3 hw tl60
      go_wp2_with fail
      go_loopw [11, 40] (fun v i wr => ∃ (k : Nat) (T : List File), k ≤ p.length ∧ i = .int .i64 k ∧ OwnN 37 w wr v T ∧ Hid (Sorted T) ∧ T.length ≤ 8 + k ∧ Hid (applyGo k T (p.drop k) = applyGo 0 t p)) (fun _ i _ => p.length - (intOf i).toNat)
      case atStart => exact ⟨0, t, Nat.zero_le _, rfl, hn0, tsrt, by omega, rfl⟩
      case round =>
        clear hn0
        rename World => wr
        obtain ⟨k, T, hk, rfl, hn, hS, hTl, hG⟩ := hrel
        obtain ⟨oa, ocap, rfl, o1, o2, o3⟩ := rdv_slice hn.own.rdv
        unfold maxLen at o2
        have hT : T.length ≤ 1000000 := by omega
        by_cases hlt : k < p.length
        · obtain ⟨c, hx⟩ : ∃ c, p[k]? = some c := ⟨p[k], by simp [hlt]⟩
          obtain ⟨_, _, hpa, _, _, p3⟩ := rdv_slice hp
          injection hpa with hpa1 hpa2 hpa3
          subst hpa1
          clear hpa2 hpa3
          obtain ⟨pb, po, hv, rfl, _, _, c0, c1, c2, hpc, hhv⟩ := elems_change p3 hx
          obtain ⟨ha, hcap, rfl, _, _, _⟩ := rdv_slice hhv
          have hhv := Lib.hid hhv
          have c0 := hn.chg.cellNever c0
          have c1 := hn.chg.cellNever c1
          have c2 := hn.chg.cellNever c2
          have HD := Lib.hid (drop_eq hx)
          obtain ⟨hA, d0, d1, d2⟩ := box1_change wr 60 c.what c.path (.slice ha c.hunks.length hcap) _ rfl
          have DS := Lib.hid (done_step (look T c.path) c)
          clear hx p3
          cases hi : isAt T c.path with
          | true =>
            obtain ⟨f, hf, hfp, hlk, hpos⟩ := find_is hS.out hi
            have IS := Lib.hid hi
            rw [hlk] at DS
            have HLK := Lib.hid hlk
            obtain ⟨fb, fo, flv, rfl, _, _, _, f1, _, hfl⟩ := elems_file o3 hf
            clear hi hf hlk o3 hfp
            have F1 := Lib.hid f1
            clear f1
            go_wp2_with fail
            generalize wr.alloc (.cells #[.int .i64 c.what, .string c.path, .slice ha c.hunks.length hcap] 60) = wA at hA d0 d1 d2 ⊢
            have hnA := hn.never hA
            have HLT := own_block_lt hn.own
            clear hn c0 c1 c2
            refine (find_any T c.path _ _ (hnA.own.rdv.sub (fun _ _ h => h.elim)) hS.out hT).mono ?_
            rintro e w4 ⟨rfl, hc4⟩
            have hn4 := hnA.never hc4
            have d0 := hc4.cellNever d0
            have d1 := hc4.cellNever d1
            have d2 := hc4.cellNever d2
            have hQ := hA.trans hc4
            clear hnA hA hc4
            rw [IS.out]
            have f1 := hQ.cellNever F1.out
            have hfl4 := (hfl.never hQ).sub (O' := Never) (fun _ _ h => h.elim)
            go_wp2_with fail
            refine (done_any true f.lines c _ _ _ (hfl4) (hhv.out.never hn4.chg)).mono ?_
            rintro e w5 ⟨r5, rfl, hc5, hr5⟩
            have hnD := hn4.never hc5
            have d0 := hc5.cellNever d0
            have d1 := hc5.cellNever d1
            have d2 := hc5.cellNever d2
            obtain ⟨ra, rc, rfl, _, _, _⟩ := rdv_slice hr5
            clear f1 hfl4
            have HST : Hid ((stepOf (look T c.path) c).2 = (doneR true f.lines c).2.2) := by rw [Hid, HLK.out, DS.out]; rfl
            by_cases hst : (stepOf (look T c.path) c).2 = 0
            · have hd0 := hst
              rw [HST.out] at hd0
              have HST0 := Lib.hid hst
              have HD0 := Lib.hid hd0
              obtain ⟨q1, q2, q3⟩ := done_ok hd0
              have k2 : c.what ≠ 2 := fun e => absurd (q1 e) (by decide)
              have t2 : (c.what == 2) = false := by simp [k2]
              have t2' : (c.what != 2) = true := by simp [k2]
              have hrf := hn4.fresh hr5
              have HSS0 : Hid (Sorted (setAt T c.path (stepOf (look T c.path) c).1)) := setAt_sorted hS.out (step_at hS.out (Prod.ext rfl HST0.out))
              have HNX0 : Hid (applyGo (k + 1) (setAt T c.path (stepOf (look T c.path) c).1) (p.drop (k + 1)) = applyGo 0 t p) := by rw [Hid, ← apply_step HD.out HST0.out]; exact hG.out
              have hdl := drop_len hpos
              rw [HD0.out, errV_zero]
              by_cases k3 : c.what = 3
              · have q3' : (doneR true f.lines c).2.1 = false := by rw [q3, k3]; rfl
                have HSET : Hid (setAt T c.path (stepOf (look T c.path) c).1 = dropAt T (posOf T c.path)) := by
                  rw [Hid, HLK.out, DS.out]
                  show setAt T c.path (if (doneR true f.lines c).2.1 = true then some (doneR true f.lines c).1 else none) = _
                  rw [if_neg (by rw [q3']; decide)]; rfl
                rw [q3']
                clear hst hd0 q1 q2 q3 q3' k2 k3 hr5 hc5 hrf d1 d2
                go_wp2_with fail
                refine (delete_any T (posOf T c.path) _ w w5 hnD hpos hT).mono ?_
                rintro e w8 ⟨r8, rfl, hn8, _, _⟩
                obtain ⟨va8, vn8, vc8, rfl⟩ := own_isSlice hn8.own
                clear d0 hnD hn4
                go_wp2_with fail
                go_roundw
                case rel => exact ⟨k + 1, _, by omega, by go_num, hn8, by rw [← HSET.out]; exact HSS0, by omega, by rw [← HSET.out]; exact HNX0⟩
                case measure => simp [intOf] <;> omega
              · have q3' : (doneR true f.lines c).2.1 = true := by rw [q3]; exact decide_eq_true k3
                have HSET : Hid (setAt T c.path (stepOf (look T c.path) c).1 = insAt (dropAt T (posOf T c.path)) (posOf T c.path) ⟨c.path, (doneR true f.lines c).1⟩) := by
                  rw [Hid, HLK.out, DS.out]
                  show setAt T c.path (if (doneR true f.lines c).2.1 = true then some (doneR true f.lines c).1 else none) = _
                  rw [if_pos q3', set_edit IS.out hpos]
                have HIL := Lib.hid (ins_len (T := dropAt T (posOf T c.path)) (i := posOf T c.path) (f := ⟨c.path, (doneR true f.lines c).1⟩) (by omega))
                rw [q3']
                clear hst hd0 q1 q2 q3 q3' k2 k3 hr5 hc5 d2
                go_wp2_with fail
                refine (delete_any T (posOf T c.path) _ w w5 hnD hpos hT).mono ?_
                rintro e w8 ⟨r8, rfl, hn8, hch8, hob8⟩
                have d1 := hch8.cell d1 (fun h => absurd (HLT _ h) (Nat.lt_irrefl _))
                have hrf8 := hrf.keep (O'' := fun k => Never k ∨ r8.ownBlock = some k) hch8 (fun k _ h => .inr h) (fun k _ h => h.imp_right (hob8 k))
                have hlt8 := own_block_lt hn8.own
                obtain ⟨va8, vn8, vc8, rfl⟩ := own_isSlice hn8.own
                clear d0 hnD hn4 hrf hch8 hob8
                have hnB := heap_alloc_new w8 (.cells #[.string c.path, .slice ra (doneR true f.lines c).1.length rc] 37)
                have hAB : Chg Never w8 (w8.alloc (.cells #[.string c.path, .slice ra (doneR true f.lines c).1.length rc] 37)) := (Chg.refl Never w8).alloc _
                go_wp2_with fail
                generalize w8.alloc (.cells #[.string c.path, .slice ra (doneR true f.lines c).1.length rc] 37) = wB at hnB hAB ⊢
                refine (insert_any (dropAt T (posOf T c.path)) (posOf T c.path) ⟨c.path, (doneR true f.lines c).1⟩ _ (.slice ra (doneR true f.lines c).1.length rc) w wB w8.heap.size 37 (hn8.never hAB) (by omega) (by omega) hnB (fun k hk e => absurd (hlt8 k hk) (by rw [e]; omega)) ⟨_, rfl, hpc, hrf8.never hAB⟩).mono ?_
                rintro e w9 ⟨r9, rfl, hn9⟩
                obtain ⟨va9, vn9, vc9, rfl⟩ := own_isSlice hn9.own
                clear hnB hAB d1 hrf8 hn8
                go_wp2_with fail
                go_roundw
                case rel => exact ⟨k + 1, _, by omega, by go_num, hn9, by rw [← HSET.out]; exact HSS0, by rw [HIL.out]; omega, by rw [← HSET.out]; exact HNX0⟩
                case measure => simp [intOf] <;> omega
            · have E := applyPost_bad (w := w) (applyR_go Z.out Y.out (by rw [← hG.out]; exact apply_bad HD.out hst) |>.trans (if_pos hst)) hnD.chg
              have hst' := hst
              rw [HST.out] at E hst'
              rw [errV_pos hst'] at E ⊢
              clear hst hst' d0 d1 d2
              go_wp2_with fail
              go_ret3
              exact E
          | false =>
            obtain ⟨hlk, hpos⟩ := find_not hS.out hi
            have IS := Lib.hid hi
            rw [hlk] at DS
            have HLK := Lib.hid hlk
            clear hi hlk o3
            go_wp2_with fail
            generalize wr.alloc (.cells #[.int .i64 c.what, .string c.path, .slice ha c.hunks.length hcap] 60) = wA at hA d0 d1 d2 ⊢
            have hnA := hn.never hA
            have HLT := own_block_lt hn.own
            clear hn c0 c1 c2
            refine (find_any T c.path _ _ (hnA.own.rdv.sub (fun _ _ h => h.elim)) hS.out hT).mono ?_
            rintro e w4 ⟨rfl, hc4⟩
            have hn4 := hnA.never hc4
            have d0 := hc4.cellNever d0
            have d1 := hc4.cellNever d1
            have d2 := hc4.cellNever d2
            have hQ := hA.trans hc4
            clear hnA hA hc4
            rw [IS.out]
            go_wp2_with fail
            refine (done_any false ([] : List ByteArray) c _ _ _ ((rdv_nil _ _)) (hhv.out.never hn4.chg)).mono ?_
            rintro e w5 ⟨r5, rfl, hc5, hr5⟩
            have hnD := hn4.never hc5
            have d0 := hc5.cellNever d0
            have d1 := hc5.cellNever d1
            have d2 := hc5.cellNever d2
            obtain ⟨ra, rc, rfl, _, _, _⟩ := rdv_slice hr5
            have HST : Hid ((stepOf (look T c.path) c).2 = (doneR false [] c).2.2) := by rw [Hid, HLK.out, DS.out]; rfl
            by_cases hst : (stepOf (look T c.path) c).2 = 0
            · have hd0 := hst
              rw [HST.out] at hd0
              have HST0 := Lib.hid hst
              have HD0 := Lib.hid hd0
              obtain ⟨q1, q2, q3⟩ := done_ok hd0
              have k2 : c.what = 2 := by
                by_cases e : c.what = 2
                · exact e
                · exact absurd (q2 e) (by decide)
              have q3' : (doneR false [] c).2.1 = true := by rw [q3, k2]; rfl
              have t2 : (c.what == 2) = true := by simp [k2]
              have hrf := hn4.fresh hr5
              have HSET : Hid (setAt T c.path (stepOf (look T c.path) c).1 = insAt T (posOf T c.path) ⟨c.path, (doneR false [] c).1⟩) := by
                rw [Hid, HLK.out, DS.out]
                show setAt T c.path (if (doneR false [] c).2.1 = true then some (doneR false [] c).1 else none) = _
                rw [if_pos q3', set_put IS.out]
              have HNX : Hid (applyGo (k + 1) (insAt T (posOf T c.path) ⟨c.path, (doneR false [] c).1⟩) (p.drop (k + 1)) = applyGo 0 t p) := by rw [Hid, ← HSET.out, ← apply_step HD.out HST0.out]; exact hG.out
              have HSS : Hid (Sorted (insAt T (posOf T c.path) ⟨c.path, (doneR false [] c).1⟩)) := by
                rw [Hid, ← HSET.out]
                exact setAt_sorted hS.out (step_at hS.out (Prod.ext rfl HST0.out))
              have HIL := Lib.hid (ins_len (T := T) (f := ⟨c.path, (doneR false [] c).1⟩) hpos)
              rw [HD0.out, errV_zero, q3']
              clear hst hd0 q1 q2 q3 q3' k2 hr5 hc5 HSET
              have hlt8 := own_block_lt hnD.own
              have hnB := heap_alloc_new w5 (.cells #[.string c.path, .slice ra (doneR false [] c).1.length rc] 37)
              have hAB : Chg Never w5 (w5.alloc (.cells #[.string c.path, .slice ra (doneR false [] c).1.length rc] 37)) := (Chg.refl Never w5).alloc _
              go_wp2_with fail
              generalize w5.alloc (.cells #[.string c.path, .slice ra (doneR false [] c).1.length rc] 37) = wB at hnB hAB ⊢
              refine (insert_any T (posOf T c.path) ⟨c.path, (doneR false [] c).1⟩ _ (.slice ra (doneR false [] c).1.length rc) w wB w5.heap.size 37 (hnD.never hAB) hpos hT hnB (fun k hk e => absurd (hlt8 k hk) (by rw [e]; omega)) ⟨_, rfl, hpc, hrf.never hAB⟩).mono ?_
              rintro e w8 ⟨r8, rfl, hn8⟩
              obtain ⟨va8, vn8, vc8, rfl⟩ := own_isSlice hn8.own
              clear hnB hAB d0 d1 d2 hrf hnD hn4
              go_wp2_with fail
              go_roundw
              case rel => exact ⟨k + 1, _, by omega, by go_num, hn8, HSS, by rw [HIL.out]; omega, HNX⟩
              case measure => simp [intOf] <;> omega
            · have E := applyPost_bad (w := w) (applyR_go Z.out Y.out (by rw [← hG.out]; exact apply_bad HD.out hst) |>.trans (if_pos hst)) hnD.chg
              have hst' := hst
              rw [HST.out] at E hst'
              rw [errV_pos hst'] at E ⊢
              clear hst hst' d0 d1 d2
              go_wp2_with fail
              go_ret3
              exact E
        · obtain rfl : k = p.length := by omega
          have hGo := hG.out
          rw [apply_end] at hGo
          have hR := applyR_go Z.out Y.out hGo.symm
          rw [if_neg (by decide)] at hR
          by_cases h8 : 8 < T.length
          · rw [if_pos h8] at hR
            have E := applyPost_bad (k := 0) hR hn.chg
            rw [errV_pos (by decide)] at E
            clear hR hGo hG
            go_wp2_with fail
            go_ret3
            exact E
          · rw [if_neg h8] at hR
            have HR := Lib.hid hR
            have hr := hn.own.rdv.sub (O' := Never) (fun _ _ h => h.elim)
            clear hR hGo hG
            go_wp2_with fail
            go_ret3
            exact applyPost_ok HR.out hn.chg hr
    · have HE := Lib.hid (applyR_patch z y)
      have Y := Lib.hid y
      have Z := Lib.hid z
      clear z y
      go_enter Tryd.func26, Tryd.ntmps26
      go_wp2_with fail
      refine (tree_check_any t _ _ ht m hm).mono ?_
      rintro e w1 ⟨rfl, hw⟩
      rw [Z.out, errV_zero]
      go_wp2_with fail
      refine (patch_check_any p _ _ (hp.never hw) m (hw.cellNever hm)).mono ?_
      rintro e w2 ⟨rfl, hc2⟩
      have E := applyPost_bad HE.out (hw.trans hc2)
      rw [errV_pos Y.out] at E ⊢
      go_wp2_with fail
      go_ret3
      exact E
  · have HE := Lib.hid (applyR_tree (p := p) z)
    have Z := Lib.hid z
    clear z
    go_enter Tryd.func26, Tryd.ntmps26
    go_wp2_with fail
    refine (tree_check_any t _ _ ht m hm).mono ?_
    rintro e w1 ⟨rfl, hw⟩
    have E := applyPost_bad HE.out hw
    rw [errV_pos Z.out] at E ⊢
    go_wp2_with fail
    go_ret3
    exact E
end Go.Proofs.YtibeddcebefbjaaDoor
namespace Go.Proofs.YtibeddcebefbjaaDoor
open Go.RowKit

/-- an error that is none, as a cell -/
instance : Dat Unit where
  n := 1
  rd _ _ cs _ := cs = [.nilIface]
  bulk _ := 1
  pos := by decide
  len := by rintro _ _ _ _ rfl; rfl
  one := by rintro _ _ _ _ rfl u hu; simp at hu; subst hu; rfl
  keep := by intro _ _ _ _ _ _ _ h _ _ _; exact h
theorem elemOk_err : ElemOk Tryd.prog 98 29 1 := elemOk_of Tryd.underlying98 (z := .nilIface) (b := 16) (by kernel_rfl) rfl (by decide)
theorem elems_none {w : World} {O : Nat → Prop} {a : Option Addr} {l : List Unit} (h : Elems w O a l) {i : Nat} {x : Unit} (hx : l[i]? = some x) : ∃ b off, a = some ⟨b, off, none⟩ ∧ w.cell? ⟨b, off + i, none⟩ = some .nilIface := by
  obtain ⟨b, off, es, ha, hb, hcs, rfl⟩ := h i x hx
  refine ⟨b, off, ha, ?_⟩
  have := hcs 0 .nilIface rfl
  simpa [Dat.n] using this
set_option maxHeartbeats 1000000 in
set_option maxRecDepth 100000 in
theorem join_none (l : List Unit) (v : Value) (w : World) (h : Rdv w Never v l) :
    Calls Tryd.prog 55 #[v] w fun e w' => e = .returned .nilIface ∧ Chg Never w w' := by
  obtain ⟨a, cap, rfl, h1, h2, h3⟩ := rdv_slice h
  unfold maxLen at h2
  go_enter Tryd.func55, Tryd.ntmps55
  go_wp2_with fail
  go_loopw [3, 11] (fun n i wr => ∃ k : Nat, k ≤ l.length ∧ i = .int .i64 k ∧ n = .int .i64 0 ∧ Chg Never w wr) (fun _ i _ => l.length - (intOf i).toNat)
  case atStart => exact ⟨0, Nat.zero_le _, rfl, rfl, Chg.refl _ _⟩
  case round =>
    obtain ⟨k, hk, rfl, rfl, hc⟩ := hrel
    by_cases hlt : k < l.length
    · obtain ⟨x, hx⟩ : ∃ x, l[k]? = some x := ⟨l[k], by simp [hlt]⟩
      obtain ⟨b, off, rfl, c0⟩ := elems_none h3 hx
      have c0 := hc.cellNever c0
      clear hx h3 h
      go_wp2_with fail
      go_roundw
      case rel => exact ⟨k + 1, by omega, by go_num, rfl, hc⟩
      case measure => simp [intOf] <;> omega
    · go_wp2_with fail
      go_ret
      exact ⟨rfl, hc⟩
/-! ### patch.Turn -/
def turnPR (p : List Change) : List Change := if (patchFault p).2 = 0 then turnP p else []
theorem turnP_take {p : List Change} {k : Nat} {c : Change} (h : p[k]? = some c) : turnP (p.take (k + 1)) = turnP (p.take k) ++ [turnC c] := by
  rw [List.take_add_one, h]; simp [turnP]
/-- both rows at the head of a round -/
structure TurnSt (w wr : World) (vO vF : Value) (L : List Change) (n : Nat) : Prop where
  out : Own 60 wr (fun j => vF.ownBlock = some j) vO L
  flt : Own 29 wr (fun j => vO.ownBlock = some j) vF (List.replicate n ())
  newO : ∀ k, vO.ownBlock = some k → w.heap.size ≤ k
  newF : ∀ k, vF.ownBlock = some k → w.heap.size ≤ k
  chg : Chg Never w wr
theorem turn_out {w2 w5 W8 : World} {B : Nat} {vO vF vF5 : Value} {L : List Change} (h : Own 60 w2 (fun j => vF.ownBlock = some j ∨ j = B) vO L) (hc5 : Chg (OwnB vF) w2 w5) (hk5 : ∃ k, vF5.ownBlock = some k ∧ (vF.ownBlock = some k ∨ w2.heap.size ≤ k)) (hcW : Chg (fun j => j = B) w5 W8) :
    Own 60 W8 (fun j => vF5.ownBlock = some j ∨ j = B) vO L := by
  obtain ⟨q, hq, hq2⟩ := hk5
  refine (h.keep (O'' := fun j => vF5.ownBlock = some j ∨ j = B) hc5 (fun _ _ h => .inl h) (fun j hj h => h.imp_left (fun h => ?_))).keep hcW (fun _ _ h => .inr h) (fun _ _ h => h)
  rw [hq] at h
  injection h with h
  subst h
  exact hq2.resolve_right (by omega)
theorem turn_rd {w2 w5 W8 : World} {B sA : Nat} {vO vF vF5 v : Value} {l : List Hunk} (h : Rdv w2 (Old sA) v l) (hs : sA ≤ w2.heap.size) (hO : ∀ k, vO.ownBlock = some k → k < sA) (hF : ∀ k, vF.ownBlock = some k → k < sA) (hB : B < sA) (hc5 : Chg (OwnB vF) w2 w5) (hk5 : ∃ k, vF5.ownBlock = some k ∧ (vF.ownBlock = some k ∨ w2.heap.size ≤ k)) (hcW : Chg (fun j => j = B) w5 W8) :
    Rdv W8 (fun j => (vF5.ownBlock = some j ∨ j = B) ∨ vO.ownBlock = some j) v l := by
  obtain ⟨q, hq, hq2⟩ := hk5
  have h5 := h.keep (O'' := fun j => Old sA j ∨ w2.heap.size ≤ j) hc5 (fun k _ hk => hF k hk) (fun k hk hh => hh.resolve_right (by omega))
  refine h5.keep hcW (fun k _ hk => .inl (by unfold Old; omega)) (fun k _ hk => ?_)
  rcases hk with (hk | rfl) | hk
  · rw [hq] at hk
    injection hk with hk
    subst hk
    exact hq2.imp_left (fun e => hF _ e)
  · exact .inl hB
  · exact .inl (hO k hk)
theorem turn_lt {w2 w5 W8 : World} {B sA : Nat} {vF vF5 : Value} {n : Nat} {O : Nat → Prop} (h : Own 29 w5 O vF5 (List.replicate n ())) (hs : sA ≤ w2.heap.size) (hB : B < sA) (hc5 : Chg (OwnB vF) w2 w5) (hcW : Chg (fun j => j = B) w5 W8) : ∀ j, (vF5.ownBlock = some j ∨ j = B) → j < W8.heap.size := by
  intro j hj
  have h1 := hc5.size
  have h2 := hcW.size
  rcases hj with hj | rfl
  · have := own_block_lt h j hj; omega
  · omega
theorem turn_step {w wr w2 w5 W8 w9 : World} {B k : Nat} {vO vF vF5 vO9 : Value} {L M : List Change} (hst : TurnSt w wr vO vF L k) (hA2 : Chg Never wr w2) (hB : B = wr.heap.size) (HF5 : Own 29 w5 (fun j => vO.ownBlock = some j ∨ j = B) vF5 (List.replicate k () ++ [()])) (hc5 : Chg (OwnB vF) w2 w5) (hk5 : ∃ k, vF5.ownBlock = some k ∧ (vF.ownBlock = some k ∨ w2.heap.size ≤ k))
    (hcW : Chg (fun j => j = B) w5 W8) (HO9 : Own 60 w9 (fun j => vF5.ownBlock = some j ∨ j = B) vO9 M) (hc9 : Chg (OwnB vO) W8 w9) (hk9 : ∃ k, vO9.ownBlock = some k ∧ (vO.ownBlock = some k ∨ W8.heap.size ≤ k)) : TurnSt w w9 vO9 vF5 M (k + 1) := by
  obtain ⟨q, hq, hq2⟩ := hk5
  obtain ⟨o, ho, ho2⟩ := hk9
  have s1 := hst.chg.size
  have s2 := hA2.size
  have s5 := hc5.size
  have s8 := hcW.size
  have hltF := own_block_lt hst.flt
  have hltO := own_block_lt hst.out
  refine ⟨HO9.keep (Chg.refl Never w9) (fun _ _ h => h.elim) (fun _ _ h => .inl h), ?_, ?_, ?_, ?_⟩
  · rw [List.replicate_succ']
    refine (HF5.keep (O'' := fun j => vO.ownBlock = some j ∨ j = B) hcW (fun _ _ h => .inr h) (fun _ _ h => h)).keep hc9 (fun _ _ h => .inl h) (fun j hj h => .inl ?_)
    rw [ho] at h
    injection h with h
    subst h
    exact ho2.resolve_right (by omega)
  · intro j hj
    rw [ho] at hj
    injection hj with hj
    subst hj
    exact ho2.elim (fun h => hst.newO _ h) (fun h => by omega)
  · intro j hj
    rw [hq] at hj
    injection hj with hj
    subst hj
    exact hq2.elim (fun h => hst.newF _ h) (fun h => by omega)
  · exact (((hst.chg.trans hA2).trans' hc5 (fun i hi h => absurd (hst.newF i h) (by omega))).trans' hcW (fun i hi h => by omega)).trans' hc9 (fun i hi h => absurd (hst.newO i h) (by omega))
set_option maxHeartbeats 4000000 in
set_option maxRecDepth 100000 in
theorem patch_turn_any (p : List Change) (vp : Value) (w : World) (hp : Rdv w Never vp p) (m : Int) (hm : w.cell? ⟨1, 0, none⟩ = some (.int .i64 m)) :
    Calls Tryd.prog 25 #[vp] w fun e w' => ∃ r, e = .returned (.tuple #[r, errV (patchFault p).2]) ∧ Chg Never w w' ∧ Rdv w' Never r (turnPR p) := by
  obtain ⟨pa, pcap, rfl, p1, p2, p3⟩ := rdv_slice hp
  unfold maxLen at p2
  by_cases y : (patchFault p).2 = 0
  · have Y := Lib.hid y
    have HE : Hid (turnPR p = turnP p) := if_pos y
    have pl := (patch_of y).1
    have PV : Hid (∀ c ∈ p, (hunksFault c.hunks).2 = 0) := fun c hc => by rw [(changeFault_zero ((patch_of y).2.1 c hc)).2.2.2.1]
    clear y
    go_enter Tryd.func25, Tryd.ntmps25
    go_wp2_with fail
    refine (patch_check_any p _ _ hp m hm).mono ?_
    rintro e w1 ⟨rfl, hw⟩
    rw [Y.out, errV_zero]
    go_wp2_with fail
    go_loopw [6, 7, 22] (fun o f i wr => ∃ k : Nat, k ≤ p.length ∧ i = .int .i64 k ∧ TurnSt w wr o f (turnP (p.take k)) k) (fun _ _ i _ => p.length - (intOf i).toNat)
    case atStart => exact ⟨0, Nat.zero_le _, rfl, own_nil _ _ _, own_nil _ _ _, fun k hk => by simp [Value.ownBlock] at hk, fun k hk => by simp [Value.ownBlock] at hk, hw⟩
    case round =>
      clear hw
      rename World => wr
      rename_i vO vF _ 
      obtain ⟨k, hk, rfl, hst⟩ := hrel
      obtain ⟨oa, on, oc, rfl⟩ := own_isSlice hst.out
      obtain ⟨fa, fn, fc, rfl⟩ := own_isSlice hst.flt
      by_cases hlt : k < p.length
      · obtain ⟨c, hx⟩ : ∃ c, p[k]? = some c := ⟨p[k], by simp [hlt]⟩
        obtain ⟨wh, pt, hs⟩ := c
        obtain ⟨pb, po, hv, rfl, _, _, c0, c1, c2, hpc, hhv⟩ := elems_change p3 hx
        simp only at c0 c1 c2 hpc hhv
        obtain ⟨ha, hcap, rfl, _, _, _⟩ := rdv_slice hhv
        have c0 := hst.chg.cellNever c0
        have c1 := hst.chg.cellNever c1
        have c2 := hst.chg.cellNever c2
        have hhv := hhv.never hst.chg
        have HT := Lib.hid (turnP_take hx)
        have HZ : Hid ((hunksFault hs).2 = 0) := PV.out _ (List.mem_of_getElem? hx)
        have HTR : Hid (turnR hs = turnHunks hs) := if_pos HZ.out
        have hB0 := Blk3.new wr 60 (.int .i64 wh) (.string pt) (.slice ha hs.length hcap)
        have hA : Chg Never wr (wr.alloc (.cells #[.int .i64 wh, .string pt, .slice ha hs.length hcap] 60)) := (Chg.refl Never wr).alloc _
        have hltO := own_block_lt hst.out
        have hltF := own_block_lt hst.flt
        have hLl : (turnP (p.take k)).length ≤ 1000000000 := by unfold turnP; rw [List.length_map, List.length_take]; omega
        have hFl : (List.replicate k ()).length ≤ 1000000000 := by rw [List.length_replicate]; omega
        by_cases k2 : wh = 2
        · subst k2
          clear hx p3 hp
          obtain ⟨d0, d1, d2⟩ := hB0.cell
          go_wp2_with fail
          have hBs : (wr.alloc (.cells #[.int .i64 2, .string pt, .slice ha hs.length hcap] 60)).heap.size = wr.heap.size + 1 := World.size_alloc _ _
          generalize wr.alloc (.cells #[.int .i64 2, .string pt, .slice ha hs.length hcap] 60) = wA at hB0 hA hBs d0 d1 d2 ⊢
          clear c0 c1 c2
          refine (turn_any hs _ _ (hhv.never hA)).mono ?_
          rintro e w2 ⟨r2, rfl, hc2, hr2⟩
          rw [HZ.out, errV_zero]
          rw [HTR.out] at hr2
          obtain ⟨ra, rc, rfl, _, _, _⟩ := rdv_slice hr2
          have hA2 := hA.trans hc2
          have hB2 := hB0.keep hc2 (fun h => h)
          have hs2 := hc2.size
          have HO2 : Own 60 w2 (fun j => (Value.slice fa fn fc).ownBlock = some j ∨ j = wr.heap.size) (.slice oa on oc) (turnP (p.take k)) := hst.out.keep hA2 (fun _ _ h => h.elim) (fun j hj h => h.elim (fun h => h) (fun h => by omega))
          have HF2 : Own 29 w2 (fun j => (Value.slice oa on oc).ownBlock = some j ∨ j = wr.heap.size) (.slice fa fn fc) (List.replicate k ()) := hst.flt.keep hA2 (fun _ _ h => h.elim) (fun j hj h => h.elim (fun h => h) (fun h => by omega))
          have hOF : ∀ j, ((Value.slice oa on oc).ownBlock = some j ∨ j = wr.heap.size) → j < w2.heap.size := fun j h => h.elim (fun h => by have := hltO j h; omega) (fun h => by omega)
          clear d0 d1 d2 hB0
          obtain ⟨d0, d1, d2⟩ := hB2.cell
          have hyf : Dat.rd w2 (fun j => ((Value.slice oa on oc).ownBlock = some j ∨ j = wr.heap.size) ∨ (Value.slice fa fn fc).ownBlock = some j) [Value.nilIface] () := rfl
          have hcw := hst.chg.trans hA2
          have hO8 : ∀ j, (Value.slice oa on oc).ownBlock = some j → j < wA.heap.size := fun j h => by have := hltO j h; omega
          have hF8 : ∀ j, (Value.slice fa fn fc).ownBlock = some j → j < wA.heap.size := fun j h => by have := hltF j h; omega
          have hBA : wr.heap.size < wA.heap.size := by omega
          generalize hBg : wr.heap.size = B at *
          go_wp2_with (first
            | (at_builtin; refine wpList_push (by rfl) _ _ 98 (by rfl) elemOk_err (O := fun j => (Value.slice oa on oc).ownBlock = some j ∨ j = B) (l := List.replicate k ()) (y := ()) (by rfl) (by rfl) (by rfl) HF2 hyf hOF hFl ?_; intro vF5 w5 HF5 hc5 hk5; have hB5 := hB2.keep hc5 (fun h => absurd (hltF _ h) (Nat.lt_irrefl _)); clear d0 d1 d2; obtain ⟨d0, d1, d2⟩ := hB5.cell; have df := hB5.free; have df0 := df 0; have df2 := df 2; obtain ⟨ga, gn, gc, rfl⟩ := own_isSlice HF5; have hcW : Chg (fun j => j = B) w5 ((w5.setCell ⟨B, 0, none⟩ (.int .i64 3)).setCell ⟨B, 2, none⟩ (.slice ra (turnHunks hs).length rc)) := ((Chg.refl (fun j => j = B) w5).setCell (p := ⟨B, 0, none⟩) (.inr rfl) _).setCell (p := ⟨B, 2, none⟩) (.inr rfl) _; have hF5l : List.replicate k () ++ [()] = List.replicate (k + 1) () := List.replicate_succ'.symm; have hO9 := turn_lt (hF5l ▸ HF5) hs2 hBA hc5 hcW; have HO8 := turn_out HO2 hc5 hk5 hcW; have hyc : Dat.rd ((w5.setCell ⟨B, 0, none⟩ (.int .i64 3)).setCell ⟨B, 2, none⟩ (.slice ra (turnHunks hs).length rc)) (fun j => ((Value.slice ga gn gc).ownBlock = some j ∨ j = B) ∨ (Value.slice oa on oc).ownBlock = some j) [.int .i64 3, .string pt, .slice ra (turnHunks hs).length rc] (⟨3, pt, turnHunks hs⟩ : Change) := ⟨_, rfl, hpc, turn_rd hr2 hs2 hO8 hF8 hBA hc5 hk5 hcW⟩; clear HO2 HF2 hyf hOF hF5l)
            | (at_builtin; refine wpList_push (by rfl) _ _ 51 (by rfl) elemOk_change (O := fun j => (Value.slice ga gn gc).ownBlock = some j ∨ j = B) (l := turnP (p.take k)) (y := (⟨3, pt, turnHunks hs⟩ : Change)) (by rfl) (by rfl) (by simp) HO8 hyc hO9 hLl ?_; intro vO9 w9 HO9 hc9 hk9))
          subst hBg
          have hfin := turn_step hst hA2 rfl HF5 hc5 hk5 hcW HO9 hc9 hk9
          obtain ⟨oa9, on9, oc9, rfl⟩ := own_isSlice HO9
          clear hc5 hk5 hcW HO9 hc9 hk9 HF5 HO8 hyc hO9 d0 d1 d2 df df0 df2 hB5 hB2
          go_roundw
          case rel => exact ⟨k + 1, by omega, by go_num, by rw [HT.out]; exact hfin⟩
          case measure => simp [intOf] <;> omega
        · by_cases k3 : wh = 3
          · subst k3
            clear k2
            clear hx p3 hp
            obtain ⟨d0, d1, d2⟩ := hB0.cell
            go_wp2_with fail
            have hBs : (wr.alloc (.cells #[.int .i64 3, .string pt, .slice ha hs.length hcap] 60)).heap.size = wr.heap.size + 1 := World.size_alloc _ _
            generalize wr.alloc (.cells #[.int .i64 3, .string pt, .slice ha hs.length hcap] 60) = wA at hB0 hA hBs d0 d1 d2 ⊢
            clear c0 c1 c2
            refine (turn_any hs _ _ (hhv.never hA)).mono ?_
            rintro e w2 ⟨r2, rfl, hc2, hr2⟩
            rw [HZ.out, errV_zero]
            rw [HTR.out] at hr2
            obtain ⟨ra, rc, rfl, _, _, _⟩ := rdv_slice hr2
            have hA2 := hA.trans hc2
            have hB2 := hB0.keep hc2 (fun h => h)
            have hs2 := hc2.size
            have HO2 : Own 60 w2 (fun j => (Value.slice fa fn fc).ownBlock = some j ∨ j = wr.heap.size) (.slice oa on oc) (turnP (p.take k)) := hst.out.keep hA2 (fun _ _ h => h.elim) (fun j hj h => h.elim (fun h => h) (fun h => by omega))
            have HF2 : Own 29 w2 (fun j => (Value.slice oa on oc).ownBlock = some j ∨ j = wr.heap.size) (.slice fa fn fc) (List.replicate k ()) := hst.flt.keep hA2 (fun _ _ h => h.elim) (fun j hj h => h.elim (fun h => h) (fun h => by omega))
            have hOF : ∀ j, ((Value.slice oa on oc).ownBlock = some j ∨ j = wr.heap.size) → j < w2.heap.size := fun j h => h.elim (fun h => by have := hltO j h; omega) (fun h => by omega)
            clear d0 d1 d2 hB0
            obtain ⟨d0, d1, d2⟩ := hB2.cell
            have hyf : Dat.rd w2 (fun j => ((Value.slice oa on oc).ownBlock = some j ∨ j = wr.heap.size) ∨ (Value.slice fa fn fc).ownBlock = some j) [Value.nilIface] () := rfl
            have hcw := hst.chg.trans hA2
            have hO8 : ∀ j, (Value.slice oa on oc).ownBlock = some j → j < wA.heap.size := fun j h => by have := hltO j h; omega
            have hF8 : ∀ j, (Value.slice fa fn fc).ownBlock = some j → j < wA.heap.size := fun j h => by have := hltF j h; omega
            have hBA : wr.heap.size < wA.heap.size := by omega
            generalize hBg : wr.heap.size = B at *
            go_wp2_with (first
              | (at_builtin; refine wpList_push (by rfl) _ _ 98 (by rfl) elemOk_err (O := fun j => (Value.slice oa on oc).ownBlock = some j ∨ j = B) (l := List.replicate k ()) (y := ()) (by rfl) (by rfl) (by rfl) HF2 hyf hOF hFl ?_; intro vF5 w5 HF5 hc5 hk5; have hB5 := hB2.keep hc5 (fun h => absurd (hltF _ h) (Nat.lt_irrefl _)); clear d0 d1 d2; obtain ⟨d0, d1, d2⟩ := hB5.cell; have df := hB5.free; have df0 := df 0; have df2 := df 2; obtain ⟨ga, gn, gc, rfl⟩ := own_isSlice HF5; have hcW : Chg (fun j => j = B) w5 ((w5.setCell ⟨B, 0, none⟩ (.int .i64 2)).setCell ⟨B, 2, none⟩ (.slice ra (turnHunks hs).length rc)) := ((Chg.refl (fun j => j = B) w5).setCell (p := ⟨B, 0, none⟩) (.inr rfl) _).setCell (p := ⟨B, 2, none⟩) (.inr rfl) _; have hF5l : List.replicate k () ++ [()] = List.replicate (k + 1) () := List.replicate_succ'.symm; have hO9 := turn_lt (hF5l ▸ HF5) hs2 hBA hc5 hcW; have HO8 := turn_out HO2 hc5 hk5 hcW; have hyc : Dat.rd ((w5.setCell ⟨B, 0, none⟩ (.int .i64 2)).setCell ⟨B, 2, none⟩ (.slice ra (turnHunks hs).length rc)) (fun j => ((Value.slice ga gn gc).ownBlock = some j ∨ j = B) ∨ (Value.slice oa on oc).ownBlock = some j) [.int .i64 2, .string pt, .slice ra (turnHunks hs).length rc] (⟨2, pt, turnHunks hs⟩ : Change) := ⟨_, rfl, hpc, turn_rd hr2 hs2 hO8 hF8 hBA hc5 hk5 hcW⟩; clear HO2 HF2 hyf hOF hF5l)
              | (at_builtin; refine wpList_push (by rfl) _ _ 51 (by rfl) elemOk_change (O := fun j => (Value.slice ga gn gc).ownBlock = some j ∨ j = B) (l := turnP (p.take k)) (y := (⟨2, pt, turnHunks hs⟩ : Change)) (by rfl) (by rfl) (by simp) HO8 hyc hO9 hLl ?_; intro vO9 w9 HO9 hc9 hk9))
            subst hBg
            have hfin := turn_step hst hA2 rfl HF5 hc5 hk5 hcW HO9 hc9 hk9
            obtain ⟨oa9, on9, oc9, rfl⟩ := own_isSlice HO9
            clear hc5 hk5 hcW HO9 hc9 hk9 HF5 HO8 hyc hO9 d0 d1 d2 df df0 df2 hB5 hB2
            go_roundw
            case rel => exact ⟨k + 1, by omega, by go_num, by rw [HT.out]; exact hfin⟩
            case measure => simp [intOf] <;> omega
          · have t2 : (wh == 2) = false := by simp [k2]
            have t3 : (wh == 3) = false := by simp [k3]
            have HW : Hid (turnC ⟨wh, pt, hs⟩ = ⟨wh, pt, turnHunks hs⟩) := by unfold Hid turnC turnW; rw [if_neg k2, if_neg k3]
            rw [HW.out] at HT
            clear k2 k3
            clear hx p3 hp
            obtain ⟨d0, d1, d2⟩ := hB0.cell
            go_wp2_with fail
            have hBs : (wr.alloc (.cells #[.int .i64 wh, .string pt, .slice ha hs.length hcap] 60)).heap.size = wr.heap.size + 1 := World.size_alloc _ _
            generalize wr.alloc (.cells #[.int .i64 wh, .string pt, .slice ha hs.length hcap] 60) = wA at hB0 hA hBs d0 d1 d2 ⊢
            clear c0 c1 c2
            refine (turn_any hs _ _ (hhv.never hA)).mono ?_
            rintro e w2 ⟨r2, rfl, hc2, hr2⟩
            rw [HZ.out, errV_zero]
            rw [HTR.out] at hr2
            obtain ⟨ra, rc, rfl, _, _, _⟩ := rdv_slice hr2
            have hA2 := hA.trans hc2
            have hB2 := hB0.keep hc2 (fun h => h)
            have hs2 := hc2.size
            have HO2 : Own 60 w2 (fun j => (Value.slice fa fn fc).ownBlock = some j ∨ j = wr.heap.size) (.slice oa on oc) (turnP (p.take k)) := hst.out.keep hA2 (fun _ _ h => h.elim) (fun j hj h => h.elim (fun h => h) (fun h => by omega))
            have HF2 : Own 29 w2 (fun j => (Value.slice oa on oc).ownBlock = some j ∨ j = wr.heap.size) (.slice fa fn fc) (List.replicate k ()) := hst.flt.keep hA2 (fun _ _ h => h.elim) (fun j hj h => h.elim (fun h => h) (fun h => by omega))
            have hOF : ∀ j, ((Value.slice oa on oc).ownBlock = some j ∨ j = wr.heap.size) → j < w2.heap.size := fun j h => h.elim (fun h => by have := hltO j h; omega) (fun h => by omega)
            clear d0 d1 d2 hB0
            obtain ⟨d0, d1, d2⟩ := hB2.cell
            have hyf : Dat.rd w2 (fun j => ((Value.slice oa on oc).ownBlock = some j ∨ j = wr.heap.size) ∨ (Value.slice fa fn fc).ownBlock = some j) [Value.nilIface] () := rfl
            have hcw := hst.chg.trans hA2
            have hO8 : ∀ j, (Value.slice oa on oc).ownBlock = some j → j < wA.heap.size := fun j h => by have := hltO j h; omega
            have hF8 : ∀ j, (Value.slice fa fn fc).ownBlock = some j → j < wA.heap.size := fun j h => by have := hltF j h; omega
            have hBA : wr.heap.size < wA.heap.size := by omega
            generalize hBg : wr.heap.size = B at *
            go_wp2_with (first
              | (at_builtin; refine wpList_push (by rfl) _ _ 98 (by rfl) elemOk_err (O := fun j => (Value.slice oa on oc).ownBlock = some j ∨ j = B) (l := List.replicate k ()) (y := ()) (by rfl) (by rfl) (by rfl) HF2 hyf hOF hFl ?_; intro vF5 w5 HF5 hc5 hk5; have hB5 := hB2.keep hc5 (fun h => absurd (hltF _ h) (Nat.lt_irrefl _)); clear d0 d1 d2; obtain ⟨d0, d1, d2⟩ := hB5.cell; have df := hB5.free; have df0 := df 0; have df2 := df 2; obtain ⟨ga, gn, gc, rfl⟩ := own_isSlice HF5; have hcW : Chg (fun j => j = B) w5 (w5.setCell ⟨B, 2, none⟩ (.slice ra (turnHunks hs).length rc)) := (Chg.refl (fun j => j = B) w5).setCell (p := ⟨B, 2, none⟩) (.inr rfl) _; have hF5l : List.replicate k () ++ [()] = List.replicate (k + 1) () := List.replicate_succ'.symm; have hO9 := turn_lt (hF5l ▸ HF5) hs2 hBA hc5 hcW; have HO8 := turn_out HO2 hc5 hk5 hcW; have hyc : Dat.rd (w5.setCell ⟨B, 2, none⟩ (.slice ra (turnHunks hs).length rc)) (fun j => ((Value.slice ga gn gc).ownBlock = some j ∨ j = B) ∨ (Value.slice oa on oc).ownBlock = some j) [.int .i64 wh, .string pt, .slice ra (turnHunks hs).length rc] (⟨wh, pt, turnHunks hs⟩ : Change) := ⟨_, rfl, hpc, turn_rd hr2 hs2 hO8 hF8 hBA hc5 hk5 hcW⟩; clear HO2 HF2 hyf hOF hF5l)
              | (at_builtin; refine wpList_push (by rfl) _ _ 51 (by rfl) elemOk_change (O := fun j => (Value.slice ga gn gc).ownBlock = some j ∨ j = B) (l := turnP (p.take k)) (y := (⟨wh, pt, turnHunks hs⟩ : Change)) (by rfl) (by rfl) (by simp) HO8 hyc hO9 hLl ?_; intro vO9 w9 HO9 hc9 hk9))
            subst hBg
            have hfin := turn_step hst hA2 rfl HF5 hc5 hk5 hcW HO9 hc9 hk9
            obtain ⟨oa9, on9, oc9, rfl⟩ := own_isSlice HO9
            clear hc5 hk5 hcW HO9 hc9 hk9 HF5 HO8 hyc hO9 d0 d1 d2 df df0 df2 hB5 hB2
            go_roundw
            case rel => exact ⟨k + 1, by omega, by go_num, by rw [HT.out]; exact hfin⟩
            case measure => simp [intOf] <;> omega
      · obtain rfl : k = p.length := by omega
        have hfr := hst.flt.rdv.sub (O' := Never) (fun _ _ h => h.elim)
        have hor := hst.out.rdv.sub (O' := Never) (fun _ _ h => h.elim)
        rw [List.take_length] at hor
        have hcw := hst.chg
        clear hst p3 hp
        go_wp2_with fail
        refine (join_none _ _ _ hfr).mono ?_
        rintro e w9 ⟨rfl, hc9⟩
        go_wp2_with fail
        go_ret2
        exact ⟨_, by rw [Y.out]; rfl, hcw.trans hc9, by rw [HE.out]; exact hor.never hc9⟩
  · have HE : Hid (turnPR p = []) := if_neg y
    have Y := Lib.hid y
    clear y
    go_enter Tryd.func25, Tryd.ntmps25
    go_wp2_with fail
    refine (patch_check_any p _ _ hp m hm).mono ?_
    rintro e w1 ⟨rfl, hw⟩
    rw [errV_pos Y.out]
    go_wp2_with fail
    go_ret2
    exact ⟨.slice none 0 0, by rw [errV_pos Y.out]; rfl, hw, by rw [HE.out]; exact rdv_nil _ _⟩
end Go.Proofs.YtibeddcebefbjaaDoor
namespace Go.Proofs.YtibeddcebefbjaaDoor
open Go.RowKit

set_option maxHeartbeats 1000000 in
set_option maxRecDepth 100000 in
theorem trees_any (l m : List File) (v u : Value) (w : World) (h : Rdv w Never v l) (g : Rdv w Never u m) :
    Calls Tryd.prog 20 #[v, u] w fun e w' => e = .returned (.bool (decide (l = m))) ∧ Chg Never w w' := by
  obtain ⟨a, cap, rfl, h1, h2, h3⟩ := rdv_slice h
  obtain ⟨c, cap', rfl, g1, g2, g3⟩ := rdv_slice g
  unfold maxLen at h2 g2
  by_cases h4 : l.length = m.length
  · have h4' : ((l.length : Int) != m.length) = false := by simp [h4]
    have H4 := Lib.hid h4
    clear h4
    go_enter Tryd.func20, Tryd.ntmps20
    go_wp2_with fail
    go_loopw [5] (fun i wr => ∃ k : Nat, k ≤ l.length ∧ i = .int .i64 k ∧ Hid (l.take k = m.take k) ∧ Chg Never w wr) (fun i _ => l.length - (intOf i).toNat)
    case atStart => exact ⟨0, Nat.zero_le _, rfl, by simp [Hid], Chg.refl _ _⟩
    case round =>
      obtain ⟨k, hk, rfl, hf, hc⟩ := hrel
      by_cases hlt : k < l.length
      · obtain ⟨x, hx⟩ : ∃ x, l[k]? = some x := ⟨l[k], by simp [hlt]⟩
        obtain ⟨y, hy⟩ : ∃ y, m[k]? = some y := ⟨m[k]'(by rw [← H4.out]; exact hlt), by simp [H4.out ▸ hlt]⟩
        obtain ⟨b, off, mv, rfl, _, _, c0, c1, _, hmv⟩ := elems_file h3 hx
        obtain ⟨b', off', mv', rfl, _, _, d0, d1, _, hmv'⟩ := elems_file g3 hy
        have C0 := Lib.hid c0
        have D0 := Lib.hid d0
        have c1 := hc.cellNever c1
        have d1 := hc.cellNever d1
        have hmv := hmv.never hc
        have hmv' := hmv'.never hc
        clear h3 g3 h g c0 d0
        have hlm : k < m.length := by rw [← H4.out]; exact hlt
        have HX := Lib.hid hx
        have HY := Lib.hid hy
        clear hx hy
        have b1 : (k : Int) < l.length := by omega
        have b2 : (k : Int) < m.length := by omega
        go_wp2_with fail
        refine wp_region_still_tail 10 (by kernel_rfl) (by kernel_rfl) ?_
        simp only [List.take_succ_cons, List.take_zero, List.drop_succ_cons, List.drop_zero]
        change wpStill _ _ wr.drew _ _ _
        repeat still_step
        refine wpStill_nil ?_
        change wpList _ _ _ _ _ wr.drew
        have hcd : Chg Never w wr.drew := hc.drew
        have hmd := hmv.never ((Chg.refl Never wr).drew)
        have hmd' := hmv'.never ((Chg.refl Never wr).drew)
        generalize wr.drew = w3 at hcd hmd hmd'
        clear hmv hmv' c1 d1 hc
        go_wp2_with fail
        refine (texts_any x.lines y.lines _ _ _ hmd hmd').mono ?_
        rintro e w4 ⟨rfl, hc4⟩
        have hc5 := hcd.trans hc4
        have c0 := hc5.cellNever C0.out
        have d0 := hc5.cellNever D0.out
        clear hmd hmd' hcd hc4
        by_cases hls : x.lines = y.lines
        · rw [decide_eq_true hls]
          by_cases hpp : x.path = y.path
          · have hxy : x = y := by
              cases x; cases y
              simp only at hls hpp
              rw [hls, hpp]
            subst hxy
            go_wp2_with fail
            go_quiet (fail)
            go_wp2_with fail
            go_roundw
            case rel => exact ⟨k + 1, by omega, by go_num, take_same hf HX.out HY.out, hc5.drewN _⟩
            case measure => simp [intOf] <;> omega
          · have hxy : x ≠ y := fun e => hpp (by rw [e])
            have t1 := str_beq_false hpp
            have HN := Lib.hid (decide_eq_false (ne_of_get HX.out HY.out hxy))
            clear hls hpp hxy
            go_wp2_with fail
            go_quiet (fail)
            go_wp2_with fail
            go_ret
            exact ⟨by rw [HN.out]; rfl, hc5.drewN _⟩
        · have hxy : x ≠ y := fun e => hls (by rw [e])
          have HN := Lib.hid (decide_eq_false (ne_of_get HX.out HY.out hxy))
          rw [decide_eq_false hls]
          clear hls hxy
          go_wp2_with fail
          go_quiet (fail)
          go_wp2_with fail
          go_ret
          exact ⟨by rw [HN.out]; rfl, hc5.drewN _⟩
      · go_wp2_with fail
        go_ret
        have E : l = m := by
          have := hf.out
          rw [List.take_of_length_le (by omega), List.take_of_length_le (by rw [← H4.out]; omega)] at this
          exact this
        exact ⟨by rw [decide_eq_true E]; rfl, hc⟩
  · have h4' : ((l.length : Int) != m.length) = true := by simp; omega
    go_enter Tryd.func20, Tryd.ntmps20
    go_wp2_with fail
    go_ret
    exact ⟨by rw [decide_eq_false (fun e => h4 (by rw [e]))]; rfl, Chg.refl _ _⟩
end Go.Proofs.YtibeddcebefbjaaDoor
namespace Go.Proofs.YtibeddcebefbjaaDoor
open Go.RowKit

theorem applyGo_nil : ∀ (p : List Change) (i : Nat) (t : List File), (applyGo i t p).2.2 ≠ 0 → (applyGo i t p).1 = []
  | [], _, _, h => absurd rfl h
  | c :: r, i, t, h => by
    rw [applyGo] at h ⊢
    by_cases e : (stepOf (look t c.path) c).2 ≠ 0
    · rw [if_pos e]
    · rw [if_neg e] at h ⊢
      exact applyGo_nil r _ _ h
theorem applyR_nil {t : List File} {p : List Change} (h : (applyR t p).2.2 ≠ 0) : (applyR t p).1 = [] := by
  unfold applyR at h ⊢
  split
  · rfl
  · split
    · rfl
    · split
      · rename_i h1 h2 h3
        exact applyGo_nil _ _ _ h3
      · split
        · rfl
        · rename_i h1 h2 h3 h4
          rw [if_neg h1, if_neg h2, if_neg h3, if_neg h4] at h
          exact absurd rfl h
theorem turn_a : (patchFault [⟨2, ⟨#[97]⟩, []⟩]).2 = 0 ∧ turnPR [⟨2, ⟨#[97]⟩, []⟩] = [⟨3, ⟨#[97]⟩, []⟩] := by decide +kernel
theorem turnPR_ok {p : List Change} (h : (patchFault p).2 = 0) : turnPR p = turnP p := if_pos h
theorem turnPR_bad {p : List Change} (h : (patchFault p).2 ≠ 0) : turnPR p = [] := if_neg h
set_option maxHeartbeats 4000000 in
set_option maxRecDepth 100000 in
theorem law_patchBack (t : List File) (p : List Change) (vt vp : Value) (w : World) (ht : Rdv w Never vt t) (hp : Rdv w Never vp p) (m : Int) (hm : w.cell? ⟨1, 0, none⟩ = some (.int .i64 m)) :
    Calls Tryd.prog 6 #[vt, vp] w fun e w' => e = .returned (.bool true) ∧ Chg Never w w' := by
  have hAf : Chg Never w (w.alloc (.cells #[.int .i64 2, .string ⟨#[97]⟩, .slice none 0 0] 60)) := (Chg.refl Never w).alloc _
  have hLf : Rdv (w.alloc (.cells #[.int .i64 2, .string ⟨#[97]⟩, .slice none 0 0] 60)) Never (.slice (some ⟨w.heap.size, 0, none⟩) 1 1) [(⟨2, ⟨#[97]⟩, []⟩ : Change)] :=
    rdv_lit (e := 60) (cs := [.int .i64 2, .string ⟨#[97]⟩, .slice none 0 0]) (heap_alloc_new _ _) rfl (by decide) ⟨⟨.slice none 0 0, rfl, by decide, rdv_nil _ _⟩, trivial⟩
  go_enter Tryd.func6, Tryd.ntmps6
  go_wp2_with fail
  generalize w.alloc (.cells #[.int .i64 2, .string ⟨#[97]⟩, .slice none 0 0] 60) = wA at hAf hLf ⊢
  generalize w.heap.size = B at hLf ⊢
  refine (patch_turn_any _ _ _ hLf m (hAf.cellNever hm)).mono ?_
  rintro e w1 ⟨r0, rfl, hc1, hr0⟩
  have hw := hAf.trans hc1
  rw [turn_a.1, errV_zero]
  rw [turn_a.2] at hr0
  obtain ⟨fa, fc, rfl, _, _, hel⟩ := rdv_slice hr0
  obtain ⟨fb, fo, fv, rfl, _, _, f0, _, _, _, _⟩ := elems_change hel (i := 0) rfl
  simp only [Nat.zero_mul, Nat.add_zero] at f0
  clear hr0 hel hLf hAf hc1
  go_wp2_with fail
  clear f0
  refine (patch_turn_any p _ _ (hp.never hw) m (hw.cellNever hm)).mono ?_
  rintro e w2 ⟨r1, rfl, hc2, hr1⟩
  have hw := hw.trans hc2
  clear hc2
  by_cases y : (patchFault p).2 = 0
  · have PP := patch_of y
    have HX := Lib.hid (turnPR_ok y)
    have PX : (patchFault (turnP p)).2 = 0 := by rw [patch_ok (patch_turn PP)]
    have HY : Hid (turnPR (turnP p) = p) := by rw [Hid, turnPR_ok PX, turnP_turnP]
    have PXH := Lib.hid PX
    have Y := Lib.hid y
    rw [y, errV_zero]
    rw [HX.out] at hr1
    clear y PX PP
    obtain ⟨xa, xc, rfl, _, _, _⟩ := rdv_slice hr1
    go_wp2_with fail
    refine (patch_turn_any (turnP p) _ _ hr1 m (hw.cellNever hm)).mono ?_
    rintro e w3 ⟨r2, rfl, hc3, hr2⟩
    have hw := hw.trans hc3
    have hr1 := hr1.never hc3
    rw [PXH.out, errV_zero]
    rw [HY.out] at hr2
    clear hc3
    go_wp2_with fail
    refine (patches_any p p _ _ _ hr2 (hp.never hw)).mono ?_
    rintro e w4 ⟨rfl, hc4⟩
    have hw := hw.trans hc4
    have hr1 := hr1.never hc4
    rw [decide_eq_true rfl]
    clear hc4 hr2
    go_wp2_with fail
    refine (apply_any t p _ _ _ (ht.never hw) (hp.never hw) m (hw.cellNever hm)).mono ?_
    rintro e w5 ⟨r5, rfl, hc5, hr5⟩
    have hw := hw.trans hc5
    have hr1 := hr1.never hc5
    clear hc5
    by_cases z : (applyR t p).2.2 = 0
    · have HB : Hid (applyR (applyR t p).1 (turnP p) = (t, 0, 0)) := apply_back (k := (applyR t p).2.1) (Prod.ext rfl (Prod.ext rfl z))
      rw [z, errV_zero]
      clear z
      generalize (applyR t p).1 = b at hr5 HB
      generalize (applyR t p).2.1 = kk
      obtain ⟨ba, bc, rfl, _, _, _⟩ := rdv_slice hr5
      go_wp2_with fail
      refine (apply_any b (turnP p) _ _ _ hr5 hr1 m (hw.cellNever hm)).mono ?_
      rintro e w6 ⟨r6, rfl, hc6, hr6⟩
      have hw := hw.trans hc6
      rw [HB.out, errV_zero]
      rw [HB.out] at hr6
      clear hc6 hr5 hr1
      go_wp2_with fail
      refine (trees_any t t _ _ _ hr6 (ht.never hw)).mono ?_
      rintro e w7 ⟨rfl, hc7⟩
      rw [decide_eq_true rfl]
      go_wp2_with fail
      go_ret
      exact ⟨rfl, hw.trans hc7⟩
    · have HN := Lib.hid (applyR_nil z)
      rw [errV_pos z]
      rw [HN.out] at hr5
      obtain ⟨ba, bc, rfl, _, _, _⟩ := rdv_slice hr5
      clear z hr5 hr1
      go_wp2_with fail
      go_ret
      exact ⟨rfl, hw⟩
  · have HX := Lib.hid (turnPR_bad y)
    have z : (applyR t p).2.2 ≠ 0 := fun z => y (by rw [patch_ok (applyR_inv (b := (applyR t p).1) (k := (applyR t p).2.1) (Prod.ext rfl (Prod.ext rfl z))).2.2.1])
    have HN := Lib.hid (applyR_nil z)
    have ZZ := Lib.hid z
    rw [errV_pos y]
    rw [HX.out] at hr1
    clear y z
    obtain ⟨xa, xc, rfl, _, _, _⟩ := rdv_slice hr1
    go_wp2_with fail
    refine (patch_turn_any [] _ _ hr1 m (hw.cellNever hm)).mono ?_
    rintro e w3 ⟨r2, rfl, hc3, hr2⟩
    have hw := hw.trans hc3
    have e0 : (patchFault []).2 = 0 := rfl
    rw [e0, errV_zero]
    obtain ⟨ya, yc, rfl, _, _, _⟩ := rdv_slice hr2
    clear hc3 hr2 hr1 e0
    go_wp2_with fail
    refine (apply_any t p _ _ _ (ht.never hw) (hp.never hw) m (hw.cellNever hm)).mono ?_
    rintro e w5 ⟨r5, rfl, hc5, hr5⟩
    have hw := hw.trans hc5
    clear hc5
    rw [errV_pos ZZ.out]
    rw [HN.out] at hr5
    obtain ⟨ba, bc, rfl, _, _, _⟩ := rdv_slice hr5
    clear hr5
    go_wp2_with fail
    go_ret
    exact ⟨rfl, hw⟩
end Go.Proofs.YtibeddcebefbjaaDoor
namespace Go.Proofs.YtibeddcebefbjaaDoor
open Go.RowKit

theorem own_out {α : Type} [Dat α] {e : TypeId} {w : World} {O : Nat → Prop} {v : Value} {l : List α} (h : Own e w O v l) : ∀ k, v.ownBlock = some k → ¬ O k := by
  obtain ⟨_, _, q, _⟩ := h
  exact q
end Go.Proofs.YtibeddcebefbjaaDoor
namespace Go.Proofs.YtibeddcebefbjaaDoor
open Go.RowKit

theorem wholeR_nil (s : Int) : wholeR [] s = [] := if_pos rfl
theorem wholeR_some {l : List ByteArray} (h : l ≠ []) (s : Int) : wholeR l s = [⟨0, 0, l.map fun x => ⟨s, x⟩⟩] := if_neg h
theorem sign_take {l : List ByteArray} {k : Nat} {x : ByteArray} {s : Int} (hx : l[k]? = some x) : (l.take (k + 1)).map (fun x => (⟨s, x⟩ : Mark)) = (l.take k).map (fun x => (⟨s, x⟩ : Mark)) ++ [⟨s, x⟩] := by
  rw [List.take_add_one, hx]; simp
theorem rdv_lit_hunk {w : World} {x : Hunk} {mv : Value} {t : TypeId} (h : Rdv w Never mv x.marks) : Rdv (w.alloc (.cells #[.int .i64 x.old, .int .i64 x.new, mv] t)) Never (.slice (some ⟨w.heap.size, 0, none⟩) 1 1) [x] :=
  rdv_lit (e := t) (cs := [.int .i64 x.old, .int .i64 x.new, mv]) (heap_alloc_new _ _) rfl (by decide) ⟨⟨mv, rfl, h.never ((Chg.refl Never w).alloc _)⟩, trivial⟩
theorem rdv_hunkO {w : World} {O : Nat → Prop} {x : Hunk} {mv : Value} {t : TypeId} (h : Rdv w O mv x.marks) (hO : ¬ O w.heap.size) : Rdv (w.alloc (.cells #[.int .i64 x.old, .int .i64 x.new, mv] t)) O (.slice (some ⟨w.heap.size, 0, none⟩) 1 1) [x] := by
  refine ⟨some ⟨w.heap.size, 0, none⟩, 1, rfl, Nat.le_refl _, by decide, ?_⟩
  intro i y hy
  obtain rfl : i = 0 := by
    cases i with
    | zero => rfl
    | succ i => simp at hy
  simp only [List.getElem?_cons_zero, Option.some.injEq] at hy
  subst hy
  refine ⟨w.heap.size, 0, [.int .i64 x.old, .int .i64 x.new, mv], rfl, hO, ?_, ⟨mv, rfl, h.never ((Chg.refl Never w).alloc _)⟩⟩
  intro j u hj
  simp only [World.cell?, heap_alloc_new]
  simpa using hj
set_option maxHeartbeats 2000000 in
set_option maxRecDepth 100000 in
theorem all_any (l : List ByteArray) (s : Int) (v : Value) (w : World) (h : Rdv w Never v l) (s0 : 0 ≤ s) (s1 : s < 256) (hl : l.length ≤ 1000000) :
    Calls Tryd.prog 51 #[v, .int .u8 s] w fun e w' => ∃ r, e = .returned r ∧ Chg Never w w' ∧ Rdv w' (Old w.heap.size) r (wholeR l s) := by
  obtain ⟨a, cap, rfl, h1, h2, h3⟩ := rdv_slice h
  unfold maxLen at h2
  by_cases hn : l = []
  · subst hn
    rw [wholeR_nil]
    go_enter Tryd.func51, Tryd.ntmps51
    go_wp2_with fail
    go_ret
    exact ⟨_, rfl, Chg.refl _ _, rdv_nil _ _⟩
  · have hpos : 0 < l.length := List.length_pos_iff.2 hn
    have t0 : ((l.length : Int) == 0) = false := by simp; omega
    have HN := Lib.hid hn
    clear hn
    have hB0 := Blk3.new w 24 (.int .i64 0) (.int .i64 0) (.slice none 0 0)
    have hc0 : Chg Never w (w.alloc (.cells #[.int .i64 0, .int .i64 0, .slice none 0 0] 24)) := (Chg.refl Never w).alloc _
    go_enter Tryd.func51, Tryd.ntmps51
    go_wp2_with fail
    generalize w.alloc (.cells #[.int .i64 0, .int .i64 0, .slice none 0 0] 24) = wA at hB0 hc0 ⊢
    generalize hBe : w.heap.size = B at hB0 ⊢
    have hBge : w.heap.size ≤ B := Nat.le_of_eq hBe
    clear hBe
    go_loopw [13] (fun i wr => ∃ (j : Nat) (mv : Value), j ≤ l.length ∧ i = .int .i64 j ∧ Chg Never w wr ∧ Blk3 wr B 24 (.int .i64 0) (.int .i64 0) mv ∧ Own 66 wr (Old (B + 1)) mv ((l.take j).map fun x => (⟨s, x⟩ : Mark))) (fun i _ => l.length - (intOf i).toNat)
    case atStart => exact ⟨0, .slice none 0 0, Nat.zero_le _, rfl, hc0, hB0, own_nil _ _ _⟩
    case round =>
      clear hc0 hB0
      obtain ⟨j, mv, hj, rfl, hc, hB, hmk⟩ := hrel
      obtain ⟨qa, qn, qc, rfl⟩ := own_isSlice hmk
      obtain ⟨f0, f1, f2⟩ := hB.cell
      have hBlt := hB.lt
      by_cases hlt : j < l.length
      · obtain ⟨x, hx⟩ : ∃ x, l[j]? = some x := ⟨l[j], by simp [hlt]⟩
        obtain ⟨b, off, rfl, _, _, c0, hxs⟩ := elems_str h3 hx
        have c0 := hc.cellNever c0
        have HX := Lib.hid hx
        have hOm : ∀ q, Old (B + 1) q → q < wr.heap.size := fun q hq => by unfold Old at hq; omega
        have hml : ((l.take j).map fun x => (⟨s, x⟩ : Mark)).length ≤ 1000000000 := by rw [List.length_map, List.length_take]; omega
        clear hx h3 h
        go_wp2_with (at_builtin; refine wpList_push (by rfl) _ _ 22 (by rfl) elemOk_mark (O := Old (B + 1)) (l := (l.take j).map fun x => (⟨s, x⟩ : Mark)) (y := ⟨s, x⟩) (by rfl) (by rfl) (by simp) hmk (rd_mark _ _ s x s0 s1 hxs) hOm hml ?_; intro mv' w5 hmk5 hc2 _; obtain ⟨sa, sn, sc, rfl⟩ := own_isSlice hmk5; have hB5 := hB.keep hc2 (fun hh => own_out hmk _ hh (Nat.lt_succ_self _)); have hc5 := hc.trans' hc2 (fun i hi hh => own_out hmk i hh (by unfold Old; omega)); obtain ⟨g0, g1, g2⟩ := hB5.cell; have g3 := hB5.free 2; clear hc2)
        have hB6 := hB5.set2 (.slice sa sn sc)
        have hmk6 := hmk5.keep (O' := fun q => q = B) (O'' := Old (B + 1)) ((Chg.refl (fun q => q = B) w5).setCell (p := ⟨B, 2, none⟩) (.inr rfl) (.slice sa sn sc)) (fun q _ hq => by have h : q = B := hq; unfold Old; omega) (fun _ _ hh => hh)
        have hc6 := hc5.setCell (p := ⟨B, 2, none⟩) (.inl hBge) (.slice sa sn sc)
        clear g0 g1 g2 g3 hB5 hmk5 hc5 hB hmk hc
        go_roundw
        case rel => exact ⟨j + 1, .slice sa sn sc, by omega, by go_num, hc6, hB6, by rw [sign_take HX.out]; exact hmk6⟩
        case measure => simp [intOf] <;> omega
      · obtain rfl : j = l.length := by omega
        rw [List.take_length] at hmk
        have hr := hmk.rdv.sub (O' := Old w.heap.size) (fun k _ h => by unfold Old at *; omega)
        have hl1 := rdv_hunkO (x := ⟨0, 0, l.map fun x => ⟨s, x⟩⟩) (t := 24) hr (fun h => absurd hc.size (Nat.not_le_of_lt h))
        go_wp2_with fail
        go_ret
        exact ⟨_, rfl, hc.alloc _, by rw [wholeR_some HN.out]; exact hl1⟩

set_option maxHeartbeats 2000000 in
set_option maxRecDepth 100000 in
theorem refWhole_any (l : List ByteArray) (s : Int) (v : Value) (w : World) (h : Rdv w Never v l) (s0 : 0 ≤ s) (s1 : s < 256) (hl : l.length ≤ 1000000) :
    Calls Tryd.prog 48 #[v, .int .u8 s] w fun e w' => ∃ r, e = .returned r ∧ Chg Never w w' ∧ Rdv w' (Old w.heap.size) r (wholeR l s) := by
  obtain ⟨a, cap, rfl, h1, h2, h3⟩ := rdv_slice h
  unfold maxLen at h2
  have hB0 := Blk3.new w 24 (.int .i64 0) (.int .i64 0) (.slice none 0 0)
  have hc0 : Chg Never w (w.alloc (.cells #[.int .i64 0, .int .i64 0, .slice none 0 0] 24)) := (Chg.refl Never w).alloc _
  go_enter Tryd.func48, Tryd.ntmps48
  go_wp2_with fail
  generalize w.alloc (.cells #[.int .i64 0, .int .i64 0, .slice none 0 0] 24) = wA at hB0 hc0 ⊢
  generalize hBe : w.heap.size = B at hB0 ⊢
  have hBge : w.heap.size ≤ B := Nat.le_of_eq hBe
  clear hBe
  go_loopw [6] (fun i wr => ∃ (j : Nat) (mv : Value), j ≤ l.length ∧ i = .int .i64 j ∧ Chg Never w wr ∧ Blk3 wr B 24 (.int .i64 0) (.int .i64 0) mv ∧ Own 66 wr (Old (B + 1)) mv ((l.take j).map fun x => (⟨s, x⟩ : Mark))) (fun i _ => l.length - (intOf i).toNat)
  case atStart => exact ⟨0, .slice none 0 0, Nat.zero_le _, rfl, hc0, hB0, own_nil _ _ _⟩
  case round =>
    clear hc0 hB0
    obtain ⟨j, mv, hj, rfl, hc, hB, hmk⟩ := hrel
    obtain ⟨qa, qn, qc, rfl⟩ := own_isSlice hmk
    have hBlt := hB.lt
    by_cases hlt : j < l.length
    · obtain ⟨x, hx⟩ : ∃ x, l[j]? = some x := ⟨l[j], by simp [hlt]⟩
      obtain ⟨b, off, rfl, _, _, c0, hxs⟩ := elems_str h3 hx
      have c0 := hc.cellNever c0
      have HX := Lib.hid hx
      have hOm : ∀ q, Old (B + 1) q → q < wr.drew.heap.size := fun q hq => by
        have e : wr.drew.heap.size = wr.heap.size := rfl
        rw [e]; unfold Old at hq; omega
      have hml : ((l.take j).map fun x => (⟨s, x⟩ : Mark)).length ≤ 1000000000 := by rw [List.length_map, List.length_take]; omega
      clear hx h3 h
      obtain ⟨f0, f1, f2⟩ := hB.cell
      have hB' := hB.keep (O := Never) (Chg.refl Never wr).drew (fun h => h)
      have hmk' := hmk.never (Chg.refl Never wr).drew
      have hc' := hc.drew
      clear hB hmk
      go_wp2_with fail
      go_region_law ((refine step_push (by rfl) _ _ 22 (by rfl) elemOk_mark (O := Old (B + 1)) (l := (l.take j).map fun x => (⟨s, x⟩ : Mark)) (y := ⟨s, x⟩) (by rfl) (by rfl) (by simp) hmk' (rd_mark _ _ s x s0 s1 hxs) hOm hml ?_; intro v' w5 hmk5 hc2 hk2; obtain ⟨ad, nn, cc, rfl⟩ := own_slice hk2; have hB5 := hB'.keep hc2 (fun hh => own_out hmk' _ hh (Nat.lt_succ_self _)); obtain ⟨g0, g1, g2⟩ := hB5.cell; have g3 := hB5.free 2))
      all_goals
        have hB6 := hB5.set2 (.slice (some ad) nn cc)
        have hmk6 := hmk5.keep (O' := fun q => q = B) (O'' := Old (B + 1)) ((Chg.refl (fun q => q = B) w5).setCell (p := ⟨B, 2, none⟩) (.inr rfl) (.slice (some ad) nn cc)) (fun q _ hq => by have h : q = B := hq; unfold Old; omega) (fun _ _ hh => hh)
        have hc6 := (hc'.trans' hc2 (fun i hi hh => own_out hmk' i hh (by unfold Old; omega))).setCell (p := ⟨B, 2, none⟩) (.inl hBge) (.slice (some ad) nn cc)
        clear g0 g1 g2 g3 hB5 hmk5 hc2 hk2 hB' hmk' hc' hc f0 f1 f2
        go_wp2_with fail
        go_roundw
        case rel => exact ⟨j + 1, .slice (some ad) nn cc, by omega, by go_num, hc6, hB6, by rw [sign_take HX.out]; exact hmk6⟩
        case measure => simp [intOf] <;> omega
    · obtain rfl : j = l.length := by omega
      rw [List.take_length] at hmk
      by_cases hn : l = []
      · have t0 : ((l.length : Int) == 0) = true := by rw [hn]; rfl
        have HN : Hid (wholeR l s = []) := if_pos hn
        clear hn hB hmk
        go_wp2_with fail
        go_ret
        exact ⟨_, rfl, hc, by rw [HN.out]; exact rdv_nil _ _⟩
      · have hpos : 0 < l.length := List.length_pos_iff.2 hn
        have t0 : ((l.length : Int) == 0) = false := by simp; omega
        have HN := Lib.hid hn
        clear hn
        obtain ⟨f0, f1, f2⟩ := hB.cell
        have hr := hmk.rdv.sub (O' := Old w.heap.size) (fun k _ h => by unfold Old at *; omega)
        have hl1 := rdv_hunkO (x := ⟨0, 0, l.map fun x => ⟨s, x⟩⟩) (t := 24) hr (fun h => absurd hc.size (Nat.not_le_of_lt h))
        go_wp2_with fail
        go_ret
        exact ⟨_, rfl, hc.alloc _, by rw [wholeR_some HN.out]; exact hl1⟩
end Go.Proofs.YtibeddcebefbjaaDoor
