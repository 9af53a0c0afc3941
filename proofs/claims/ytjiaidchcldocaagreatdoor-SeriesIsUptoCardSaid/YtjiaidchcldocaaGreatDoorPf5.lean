/-
  PARTS: WHAT LIES BETWEEN TWO TREES, in plain Lean: file by file of two sorted lists; the document's way by all paths of both is the same.; PATCHES, in plain Lean (chapter 2): what may be one, what is done to a tree, turned it leads back.; THE WALKS of patch.whole, shape, one, Check.; THE WALKS of patch.shape, one, Check.; THE WALKS OF LAYER 4: slices.Clone, hunk.Copy.; A NUMBER OF A DRAWING REGION IS TAKEN FIRST, in short words.; append OF A WHOLE SLICE whose elements lie in blocks of their own, to one of the call's own. No program in sight.; MORE ON ROWS THAT append HAS BUILT, whose elements lie elsewhere.; ROWS OF A SLICE OF ITS OWN, element by element: what copy, clear, append do to one. No function of the program in sight.; THE WALKS of the document's DropOf, PutOf.; THE WALK of slices.Delete of one file, in place.
-/
import Derived.Test.YtjiaidchcldocaaGreatDoorPf4
import Derived.Test.YtjiaidchcldocaaGreatDoorPf2
import Derived.Test.YtjiaidchcldocaaGreatDoorPf3
import Derived.BigQuiet
import Derived.Test.YtjiaidchcldocaaGreatDoorPf1
import Derived.OrdersHeld
import Derived.Deep.RegionHeld3
import Derived.Lib.AppendZerosOnto
set_option linter.unusedVariables false
set_option linter.unusedSimpArgs false
namespace Go.Proofs.YtjiaidchcldocaaGreatDoor

def wholeR (l : List ByteArray) (s : Int) : List Hunk := if l = [] then [] else [⟨0, 0, l.map fun x => ⟨s, x⟩⟩]
def chg (n : Int) (p : ByteArray) : Option (List ByteArray) → Option (List ByteArray) → List Change
  | none, none => []
  | none, some y => [⟨2, p, wholeR y 43⟩]
  | some x, none => [⟨3, p, wholeR x 45⟩]
  | some x, some y => if cutOf (script x y) n = [] then [] else [⟨1, p, cutOf (script x y) n⟩]
def Behind (p : ByteArray) (a : List File) : Prop := ∀ x ∈ a, less p x.path = true
theorem Behind.trans {p q : ByteArray} {a : List File} (h : Behind q a) (g : less p q = true) : Behind p a := fun x hx => less_trans g (h x hx)
theorem Behind.cons {p : ByteArray} {x : File} {a : List File} (h : Behind p a) (g : less p x.path = true) : Behind p (x :: a) := fun y hy => by
  rcases List.mem_cons.1 hy with rfl | hy
  · exact g
  · exact h y hy
theorem Behind.none {p : ByteArray} {a : List File} (h : Behind p a) : look a p = none := look_none fun x hx => (less_ne (h x hx)).symm
end Go.Proofs.YtjiaidchcldocaaGreatDoor
namespace Go.Proofs.YtjiaidchcldocaaGreatDoor

def wholeB (l : List Hunk) (s : Int) : Bool :=
  match l with
  | [] => true
  | [h] => decide (h.old = 0) && decide (h.new = 0) && h.marks.all fun m => decide (m.sign = s)
  | _ => false
def shapeB (c : Change) : Bool := if c.what = 2 then wholeB c.hunks 43 else if c.what = 3 then wholeB c.hunks 45 else !c.hunks.isEmpty
def changeFault (c : Change) : Int :=
  if c.what < 1 ∨ 3 < c.what then 1 else if pathFault c.path ≠ 0 then pathFault c.path else if (hunksFault c.hunks).2 ≠ 0 then (hunksFault c.hunks).2 else if shapeB c = true then 0 else 2
def patchGo : Nat → Option ByteArray → List Change → Nat × Int
  | _, _, [] => (0, 0)
  | i, prev, c :: r => if changeFault c ≠ 0 then (i, changeFault c) else if prev.any (fun p => leqB c.path p) = true then (i, 2) else patchGo (i + 1) (some c.path) r
def patchFault (p : List Change) : Nat × Int := if 16 < p.length then (0, 3) else patchGo 0 none p
def SortedC (p : List Change) : Prop := p.Pairwise fun c d => less c.path d.path = true
def Patch (p : List Change) : Prop := p.length ≤ 16 ∧ (∀ c ∈ p, changeFault c = 0) ∧ SortedC p

theorem patchGo_zero : ∀ (t : List Change) (i : Nat) (prev : Option ByteArray), (patchGo i prev t).2 = 0 → (∀ f ∈ t, changeFault f = 0) ∧ SortedC t ∧ (∀ p f, prev = some p → f ∈ t → less p f.path = true) ∧ patchGo i prev t = (0, 0)
  | [], _, _, _ => ⟨by simp, List.Pairwise.nil, by simp, rfl⟩
  | f :: r, i, prev, h => by
    rw [patchGo] at h ⊢
    by_cases h1 : changeFault f ≠ 0
    · rw [if_pos h1] at h; exact absurd h h1
    · rw [if_neg h1] at h ⊢
      by_cases h2 : prev.any (fun p => leqB f.path p) = true
      · rw [if_pos h2] at h; cases h
      · rw [if_neg h2] at h ⊢
        obtain ⟨i1, i2, i3, i4⟩ := patchGo_zero r (i + 1) (some f.path) h
        refine ⟨?_, ?_, ?_, i4⟩
        · intro x hx
          rcases List.mem_cons.1 hx with rfl | hx
          · simpa using h1
          · exact i1 x hx
        · exact List.Pairwise.cons (fun g hg => i3 f.path g rfl hg) i2
        · rintro p x rfl hx
          have hp : less p f.path = true := by
            simp only [Option.any_some] at h2
            rcases less_tri p f.path with g | g | g
            · exact g
            · exact absurd (leqB_true.2 (by rw [g]; exact less_irrefl _)) h2
            · exact absurd (leqB_true.2 (less_asymm g)) h2
          rcases List.mem_cons.1 hx with rfl | hx
          · exact hp
          · exact less_trans hp (i3 f.path x rfl hx)
theorem patch_of {p : List Change} (h : (patchFault p).2 = 0) : Patch p := by
  unfold patchFault at h
  by_cases h1 : 16 < p.length
  · rw [if_pos h1] at h; cases h
  · rw [if_neg h1] at h
    obtain ⟨i1, i2, _, _⟩ := patchGo_zero p 0 none h
    exact ⟨by omega, i1, i2⟩
def stepOf (x : Option (List ByteArray)) (c : Change) : Option (List ByteArray) × Int :=
  if c.what = 2 ∧ x.isSome = true then (none, 6)
  else if c.what ≠ 2 ∧ x.isSome = false then (none, 4)
  else if (strict (x.getD []) c.hunks).2.2 ≠ 0 then (none, (strict (x.getD []) c.hunks).2.2)
  else if c.what = 3 then (if (strict (x.getD []) c.hunks).1 = [] then (none, 0) else (none, 6))
  else (some (strict (x.getD []) c.hunks).1, 0)
def setAt (t : List File) (p : ByteArray) (y : Option (List ByteArray)) : List File :=
  match y with
  | some l => putAt t ⟨p, l⟩
  | none => dropAt t (posOf t p)
def applyGo : Nat → List File → List Change → List File × Nat × Int
  | _, t, [] => (t, 0, 0)
  | i, t, c :: r => if (stepOf (look t c.path) c).2 ≠ 0 then ([], i, (stepOf (look t c.path) c).2) else applyGo (i + 1) (setAt t c.path (stepOf (look t c.path) c).1) r
def applyR (t : List File) (p : List Change) : List File × Nat × Int :=
  if (treeFault t).2 ≠ 0 then ([], 0, (treeFault t).2)
  else if (patchFault p).2 ≠ 0 then ([], (patchFault p).1, (patchFault p).2)
  else if (applyGo 0 t p).2.2 ≠ 0 then applyGo 0 t p
  else if 8 < (applyGo 0 t p).1.length then ([], 0, 3)
  else ((applyGo 0 t p).1, 0, 0)

theorem step_none {x : Option (List ByteArray)} {c : Change} (h : stepOf x c = (none, 0)) : x.isSome = true := by
  unfold stepOf at h
  by_cases h1 : c.what = 2 ∧ x.isSome = true
  · exact h1.2
  · rw [if_neg h1] at h
    by_cases h2 : c.what ≠ 2 ∧ x.isSome = false
    · rw [if_pos h2] at h; cases h
    · rw [if_neg h2] at h
      by_cases h3 : (strict (x.getD []) c.hunks).2.2 ≠ 0
      · rw [if_pos h3] at h; exact absurd (Prod.mk.inj h).2 h3
      · rw [if_neg h3] at h
        by_cases h4 : c.what = 3
        · cases hx : x.isSome with
          | true => rfl
          | false => exact absurd ⟨by omega, hx⟩ h2
        · rw [if_neg h4] at h; cases h
theorem setAt_sorted {t : List File} (hs : Sorted t) {p : ByteArray} {y : Option (List ByteArray)} (hy : y = none → isAt t p = true) : Sorted (setAt t p y) := by
  cases y with
  | some l => exact putAt_sorted hs ⟨p, l⟩
  | none => exact dropAt_sorted hs (hy rfl)
theorem step_at {t : List File} (hs : Sorted t) {c : Change} {y : Option (List ByteArray)} (h : stepOf (look t c.path) c = (y, 0)) : y = none → isAt t c.path = true := by
  rintro rfl
  rw [isAt_look hs]
  exact step_none h

end Go.Proofs.YtjiaidchcldocaaGreatDoor
namespace Go.Proofs.YtjiaidchcldocaaGreatDoor
open Go.RowKit

theorem other_any (sg s : Int) (tx : ByteArray) (p : Addr) (w : World) (h : w.cell? p = some (.int .u8 s)) :
    Calls Tryz.prog 224 #[.agg #[.int .u8 sg, .string tx], .pointer (some p)] w fun e w' => e = .returned (.bool (sg != s)) ∧ Chg Never w w' := by
  have h := ((Chg.refl Never w).alloc (.cells #[.int .u8 sg, .string tx] 126)).cellNever h
  go_enter Tryz.func224, Tryz.ntmps224
  go_wp2_with fail
  go_ret
  exact ⟨rfl, (Chg.refl _ _).alloc _⟩
def allSign (l : List Mark) (s : Int) : Bool := l.all fun m => decide (m.sign = s)
theorem allSign_take {l : List Mark} {k : Nat} {x : Mark} {s : Int} (hx : l[k]? = some x) (h : allSign (l.take k) s = true) : allSign (l.take (k + 1)) s = decide (x.sign = s) := by
  rw [List.take_add_one, hx]
  unfold allSign at *
  rw [List.all_append, h]
  simp
theorem allSign_bad {l : List Mark} {k : Nat} {x : Mark} {s : Int} (hx : l[k]? = some x) (h : x.sign ≠ s) : allSign l s = false := by
  unfold allSign
  rw [List.all_eq_false]
  exact ⟨x, List.mem_of_getElem? hx, by simp [h]⟩
def OthPost (l : List Mark) (s : Int) (w : World) (e : Ending) (w' : World) : Prop := ∃ n : Int, e = .returned (.int .i64 n) ∧ -1 ≤ n ∧ decide (0 ≤ n) = !(allSign l s) ∧ Chg Never w w'
set_option maxHeartbeats 1000000 in
set_option maxRecDepth 100000 in
theorem index_other (l : List Mark) (s : Int) (v : Value) (p : Addr) (w : World) (h : Rdv w Never v l) (hp : w.cell? p = some (.int .u8 s)) :
    Calls Tryz.prog 211 #[v, .func (.func 224) #[] #[.pointer (some p)]] w (OthPost l s w) := by
  obtain ⟨a, cap, rfl, h1, h2, h3⟩ := rdv_slice h
  unfold maxLen at h2
  go_enter Tryz.func211, Tryz.ntmps211
  go_wp2_with fail
  go_loopw [8] (fun i wr => ∃ k : Nat, k ≤ l.length ∧ i = .int .i64 k ∧ Hid (allSign (l.take k) s = true) ∧ Chg Never w wr) (fun i _ => l.length - (intOf i).toNat)
  case atStart => exact ⟨0, Nat.zero_le _, rfl, rfl, Chg.refl _ _⟩
  case round =>
    obtain ⟨k, hk, rfl, hf, hc⟩ := hrel
    by_cases hlt : k < l.length
    · obtain ⟨x, hx⟩ : ∃ x, l[k]? = some x := ⟨l[k], by simp [hlt]⟩
      obtain ⟨b, off, rfl, _, _, c0, c1, s0, s1, hxs⟩ := elems_mark h3 hx
      have c0 := hc.cellNever c0
      have c1 := hc.cellNever c1
      have HT := Lib.hid (allSign_take hx hf.out)
      have HB : ∀ _ : x.sign ≠ s, Hid (allSign l s = false) := fun e => allSign_bad hx e
      clear hx h3 h
      obtain ⟨sg, tx⟩ := x
      simp only at c0 c1 s0 s1 hxs HB HT
      by_cases h32 : sg = s
      · have t1 : (sg != s) = false := by simp [h32]
        go_wp2_with (go_at_call 224; refine (other_any _ s _ _ _ (hc.cellNever hp)).mono ?_; rintro e w2 ⟨rfl, hc2⟩)
        go_roundw
        case rel => exact ⟨k + 1, by omega, by go_num, by rw [Hid, HT.out]; exact decide_eq_true h32, hc.trans hc2⟩
        case measure => simp [intOf] <;> omega
      · have t1 : (sg != s) = true := by simp [h32]
        have E := HB h32
        clear HB HT
        go_wp2_with (go_at_call 224; refine (other_any _ s _ _ _ (hc.cellNever hp)).mono ?_; rintro e w2 ⟨rfl, hc2⟩)
        go_ret
        exact ⟨k, rfl, by omega, by rw [E.out]; simp, hc.trans hc2⟩
    · go_wp2_with fail
      go_ret
      have E : allSign l s = true := by have := hf.out; rwa [List.take_of_length_le (by omega)] at this
      exact ⟨-1, rfl, by omega, by rw [E]; rfl, hc⟩
theorem contains_other (l : List Mark) (s : Int) (v : Value) (p : Addr) (w : World) (h : Rdv w Never v l) (hp : w.cell? p = some (.int .u8 s)) :
    Calls Tryz.prog 181 #[v, .func (.func 224) #[] #[.pointer (some p)]] w fun e w' => e = .returned (.bool (!(allSign l s))) ∧ Chg Never w w' := by
  go_enter Tryz.func181, Tryz.ntmps181
  go_wp2_with fail
  refine (index_other l s _ _ _ h hp).mono ?_
  rintro e w1 ⟨n, rfl, hn, hd, hc⟩
  have HD := Lib.hid hd
  clear hd
  go_wp2_with fail
  go_ret
  exact ⟨by rw [← HD.out]; rfl, hc⟩

theorem box_change (w : World) (T U : TypeId) (k s : Int) (p : ByteArray) (v : Value) (W : World) (hW : W = (w.alloc (.cells #[.int .i64 k, .string p, v] T)).alloc (.cells #[.int .u8 s] U)) :
    Chg Never w W ∧ W.cell? ⟨w.heap.size, 0, none⟩ = some (.int .i64 k) ∧ W.cell? ⟨w.heap.size, 1, none⟩ = some (.string p) ∧ W.cell? ⟨w.heap.size, 2, none⟩ = some v ∧ W.cell? ⟨w.heap.size + 1, 0, none⟩ = some (.int .u8 s) := by
  subst hW
  have hA : Chg Never w (w.alloc (.cells #[.int .i64 k, .string p, v] T)) := (Chg.refl Never w).alloc _
  have hB := (Chg.refl Never (w.alloc (.cells #[.int .i64 k, .string p, v] T))).alloc (.cells #[.int .u8 s] U)
  have n := heap_alloc_new w (.cells #[.int .i64 k, .string p, v] T)
  have n2 := heap_alloc_new (w.alloc (.cells #[.int .i64 k, .string p, v] T)) (.cells #[.int .u8 s] U)
  rw [World.size_alloc] at n2
  refine ⟨hA.trans hB, hB.cellNever ?_, hB.cellNever ?_, hB.cellNever ?_, ?_⟩
  · simp only [World.cell?]; rw [n]; rfl
  · simp only [World.cell?]; rw [n]; rfl
  · simp only [World.cell?]; rw [n]; rfl
  · simp only [World.cell?]; rw [n2]; rfl
theorem box1_change (w : World) (T : TypeId) (k : Int) (p : ByteArray) (v : Value) (W : World) (hW : W = w.alloc (.cells #[.int .i64 k, .string p, v] T)) :
    Chg Never w W ∧ W.cell? ⟨w.heap.size, 0, none⟩ = some (.int .i64 k) ∧ W.cell? ⟨w.heap.size, 1, none⟩ = some (.string p) ∧ W.cell? ⟨w.heap.size, 2, none⟩ = some v := by
  subst hW
  have n := heap_alloc_new w (.cells #[.int .i64 k, .string p, v] T)
  refine ⟨(Chg.refl Never w).alloc _, ?_, ?_, ?_⟩ <;> (simp only [World.cell?]; rw [n]; rfl)
theorem wholeB_one (h : Hunk) (s : Int) : wholeB [h] s = (decide (h.old = 0) && decide (h.new = 0) && allSign h.marks s) := rfl
theorem wholeB_many {l : List Hunk} {s : Int} (h : 2 ≤ l.length) : wholeB l s = false := by
  match l, h with
  | _ :: _ :: _, _ => rfl
set_option maxHeartbeats 2000000 in
set_option maxRecDepth 100000 in
theorem whole_go (wh : Int) (pa : ByteArray) (hs : List Hunk) (s : Int) (v : Value) (w : World) (h : Rdv w Never v hs) :
    Calls Tryz.prog 201 #[.agg #[.int .i64 wh, .string pa, v], .int .u8 s] w fun e w' => e = .returned (.bool (wholeB hs s)) ∧ Chg Never w w' := by
  obtain ⟨a, cap, rfl, h1, h2, h3⟩ := rdv_slice h
  obtain ⟨hA, b0, b1, b2, bs⟩ := box_change w 85 5 wh s pa (.slice a hs.length cap) _ rfl
  match hs, h, h1, h2, h3, hA, b0, b1, b2, bs with
  | [], h, h1, h2, h3, hA, b0, b1, b2, bs =>
    have e0 : wholeB [] s = true := rfl
    rw [e0]
    go_enter Tryz.func201, Tryz.ntmps201
    go_wp2_with fail
    go_ret
    exact ⟨rfl, hA⟩
  | [x], h, h1, h2, h3, hA, b0, b1, b2, bs =>
    obtain ⟨b, off, mv, rfl, _, _, c0, c1, c2, hmv⟩ := elems_hunk h3 (i := 0) rfl
    simp only [Nat.zero_mul, Nat.add_zero] at c0 c1 c2
    have c0 := hA.cellNever c0
    have c1 := hA.cellNever c1
    have c2 := hA.cellNever c2
    have hmv := hmv.never hA
    rw [wholeB_one]
    clear h3
    by_cases o : x.old = 0
    · by_cases n : x.new = 0
      · rw [decide_eq_true o, decide_eq_true n]
        have o0 : (x.old == 0) = true := by simp [o]
        have n0 : (x.new == 0) = true := by simp [n]
        clear o n
        go_enter Tryz.func201, Tryz.ntmps201
        go_wp2_with fail
        refine (contains_other x.marks s _ _ _ hmv bs).mono ?_
        rintro e w2 ⟨rfl, hc2⟩
        go_wp2_with fail
        go_ret
        exact ⟨by simp, hA.trans hc2⟩
      · rw [decide_eq_true o, decide_eq_false n]
        have o0 : (x.old == 0) = true := by simp [o]
        have n0 : (x.new == 0) = false := by simp [n]
        clear o n
        go_enter Tryz.func201, Tryz.ntmps201
        go_wp2_with fail
        go_ret
        exact ⟨rfl, hA⟩
    · rw [decide_eq_false o]
      have o0 : (x.old == 0) = false := by simp [o]
      clear o
      go_enter Tryz.func201, Tryz.ntmps201
      go_wp2_with fail
      go_ret
      exact ⟨rfl, hA⟩
  | x :: y :: r, h, h1, h2, h3, hA, b0, b1, b2, bs =>
    rw [wholeB_many (by simp)]
    generalize hL : x :: y :: r = L at b0 b1 b2 bs h h1 h2 hA ⊢
    have hge : 2 ≤ L.length := by rw [← hL]; simp
    have t0 : ((L.length : Int) == 0) = false := beq_eq_false_iff_ne.2 (by omega)
    have t1 : ((L.length : Int) == 1) = false := beq_eq_false_iff_ne.2 (by omega)
    clear hL h3
    go_enter Tryz.func201, Tryz.ntmps201
    go_wp2_with fail
    go_ret
    exact ⟨rfl, hA⟩
theorem whole_any (c : Change) (s : Int) (v : Value) (w : World) (h : Rdv w Never v c.hunks) :
    Calls Tryz.prog 201 #[.agg #[.int .i64 c.what, .string c.path, v], .int .u8 s] w fun e w' => e = .returned (.bool (wholeB c.hunks s)) ∧ Chg Never w w' := whole_go _ _ _ _ _ _ h
end Go.Proofs.YtjiaidchcldocaaGreatDoor
namespace Go.Proofs.YtjiaidchcldocaaGreatDoor
open Go.RowKit

set_option maxHeartbeats 1000000 in
set_option maxRecDepth 100000 in
theorem shape_any (c : Change) (v : Value) (w : World) (h : Rdv w Never v c.hunks) :
    Calls Tryz.prog 166 #[.agg #[.int .i64 c.what, .string c.path, v]] w fun e w' => e = .returned (.bool (shapeB c)) ∧ Chg Never w w' := by
  obtain ⟨a, cap, rfl, h1, h2, _⟩ := rdv_slice h
  obtain ⟨hA, b0, b1, b2⟩ := box1_change w 85 c.what c.path (.slice a c.hunks.length cap) _ rfl
  by_cases k2 : c.what = 2
  · have E : Hid (shapeB c = wholeB c.hunks 43) := if_pos k2
    have t2 : (c.what == 2) = true := by simp [k2]
    clear k2
    go_enter Tryz.func166, Tryz.ntmps166
    go_wp2_with fail
    refine (whole_any c 43 _ _ (h.never hA)).mono ?_
    rintro e w2 ⟨rfl, hc2⟩
    go_wp2_with fail
    go_ret
    exact ⟨by rw [E.out]; rfl, hA.trans hc2⟩
  · have t2 : (c.what == 2) = false := by simp [k2]
    by_cases k3 : c.what = 3
    · have E : Hid (shapeB c = wholeB c.hunks 45) := by unfold Hid shapeB; rw [if_neg k2, if_pos k3]
      have t3 : (c.what == 3) = true := by simp [k3]
      clear k2 k3
      go_enter Tryz.func166, Tryz.ntmps166
      go_wp2_with fail
      refine (whole_any c 45 _ _ (h.never hA)).mono ?_
      rintro e w2 ⟨rfl, hc2⟩
      go_wp2_with fail
      go_ret
      exact ⟨by rw [E.out]; rfl, hA.trans hc2⟩
    · have E : Hid (shapeB c = decide (0 < c.hunks.length)) := by
        unfold Hid shapeB
        rw [if_neg k2, if_neg k3]
        cases c.hunks <;> simp
      have t3 : (c.what == 3) = false := by simp [k3]
      clear k2 k3
      go_enter Tryz.func166, Tryz.ntmps166
      go_wp2_with fail
      go_ret
      exact ⟨by rw [E.out]; rfl, hA⟩
theorem cf_rng {c : Change} (h : c.what < 1 ∨ 3 < c.what) : changeFault c = 1 := if_pos h
theorem cf_path {c : Change} (h : ¬ (c.what < 1 ∨ 3 < c.what)) (g : pathFault c.path ≠ 0) : changeFault c = pathFault c.path := by unfold changeFault; rw [if_neg h, if_pos g]
theorem cf_hunks {c : Change} (h : ¬ (c.what < 1 ∨ 3 < c.what)) (g : pathFault c.path = 0) (k : (hunksFault c.hunks).2 ≠ 0) : changeFault c = (hunksFault c.hunks).2 := by unfold changeFault; rw [if_neg h, if_neg (by rw [g]; decide), if_pos k]
theorem cf_shape {c : Change} (h : ¬ (c.what < 1 ∨ 3 < c.what)) (g : pathFault c.path = 0) (k : (hunksFault c.hunks).2 = 0) (s : shapeB c = false) : changeFault c = 2 := by unfold changeFault; rw [if_neg h, if_neg (by rw [g]; decide), if_neg (by rw [k]; decide), if_neg (by rw [s]; decide)]
theorem cf_ok {c : Change} (h : ¬ (c.what < 1 ∨ 3 < c.what)) (g : pathFault c.path = 0) (k : (hunksFault c.hunks).2 = 0) (s : shapeB c = true) : changeFault c = 0 := by unfold changeFault; rw [if_neg h, if_neg (by rw [g]; decide), if_neg (by rw [k]; decide), if_pos s]
set_option maxHeartbeats 2000000 in
set_option maxRecDepth 100000 in
theorem patch_one_any (c : Change) (v : Value) (w : World) (h : Rdv w Never v c.hunks) (m : Int) (hm : w.cell? ⟨1, 0, none⟩ = some (.int .i64 m)) :
    Calls Tryz.prog 113 #[.agg #[.int .i64 c.what, .string c.path, v]] w fun e w' => e = .returned (errV (changeFault c)) ∧ Chg Never w w' := by
  obtain ⟨a, cap, rfl, h1, h2, _⟩ := rdv_slice h
  obtain ⟨hA, b0, b1, b2⟩ := box1_change w 85 c.what c.path (.slice a c.hunks.length cap) _ rfl
  by_cases r : c.what < 1 ∨ 3 < c.what
  · rw [cf_rng r]
    rcases r with r | r
    · go_enter Tryz.func113, Tryz.ntmps113
      go_wp2_with fail
      go_ret
      exact ⟨rfl, hA⟩
    · have r0 : ¬ c.what < 1 := by omega
      go_enter Tryz.func113, Tryz.ntmps113
      go_wp2_with fail
      go_ret
      exact ⟨rfl, hA⟩
  · have r0 : ¬ c.what < 1 := by omega
    have r1 : ¬ 3 < c.what := by omega
    by_cases z : pathFault c.path = 0
    · have Z := Lib.hid z
      by_cases y : (hunksFault c.hunks).2 = 0
      · have Y := Lib.hid y
        cases s : shapeB c with
        | true =>
          have E := Lib.hid (cf_ok r z y s)
          have S := Lib.hid s
          clear r z y s
          go_enter Tryz.func113, Tryz.ntmps113
          go_wp2_with fail
          generalize w.alloc (.cells #[.int .i64 c.what, .string c.path, .slice a c.hunks.length cap] 85) = wA at hA b0 b1 b2 ⊢
          refine (line_path_any c.path _ m (hA.cellNever hm)).mono ?_
          rintro e w2 ⟨rfl, hc2⟩
          have hw := hA.trans hc2
          have b0 := hc2.cellNever b0
          have b1 := hc2.cellNever b1
          have b2 := hc2.cellNever b2
          clear hc2
          rw [Z.out, errV_zero]
          go_wp2_with fail
          refine (hunk_check_any c.hunks _ _ (h.never hw)).mono ?_
          rintro e w3 ⟨rfl, hc3⟩
          have hw := hw.trans hc3
          have b0 := hc3.cellNever b0
          have b1 := hc3.cellNever b1
          have b2 := hc3.cellNever b2
          clear hc3
          rw [Y.out, errV_zero]
          go_wp2_with fail
          refine (shape_any c _ _ (h.never hw)).mono ?_
          rintro e w4 ⟨rfl, hc4⟩
          rw [S.out]
          clear b0 b1 b2
          go_wp2_with fail
          go_ret
          exact ⟨by rw [E.out]; rfl, hw.trans hc4⟩
        | false =>
          have E := Lib.hid (cf_shape r z y s)
          have S := Lib.hid s
          clear r z y s
          go_enter Tryz.func113, Tryz.ntmps113
          go_wp2_with fail
          generalize w.alloc (.cells #[.int .i64 c.what, .string c.path, .slice a c.hunks.length cap] 85) = wA at hA b0 b1 b2 ⊢
          refine (line_path_any c.path _ m (hA.cellNever hm)).mono ?_
          rintro e w2 ⟨rfl, hc2⟩
          have hw := hA.trans hc2
          have b0 := hc2.cellNever b0
          have b1 := hc2.cellNever b1
          have b2 := hc2.cellNever b2
          clear hc2
          rw [Z.out, errV_zero]
          go_wp2_with fail
          refine (hunk_check_any c.hunks _ _ (h.never hw)).mono ?_
          rintro e w3 ⟨rfl, hc3⟩
          have hw := hw.trans hc3
          have b0 := hc3.cellNever b0
          have b1 := hc3.cellNever b1
          have b2 := hc3.cellNever b2
          clear hc3
          rw [Y.out, errV_zero]
          go_wp2_with fail
          refine (shape_any c _ _ (h.never hw)).mono ?_
          rintro e w4 ⟨rfl, hc4⟩
          rw [S.out]
          clear b0 b1 b2
          go_wp2_with fail
          go_ret
          exact ⟨by rw [E.out]; rfl, hw.trans hc4⟩
      · have E := Lib.hid (cf_hunks r z y)
        have Y := Lib.hid y
        clear r z y
        go_enter Tryz.func113, Tryz.ntmps113
        go_wp2_with fail
        generalize w.alloc (.cells #[.int .i64 c.what, .string c.path, .slice a c.hunks.length cap] 85) = wA at hA b0 b1 b2 ⊢
        refine (line_path_any c.path _ m (hA.cellNever hm)).mono ?_
        rintro e w2 ⟨rfl, hc2⟩
        have hw := hA.trans hc2
        have b0 := hc2.cellNever b0
        have b1 := hc2.cellNever b1
        have b2 := hc2.cellNever b2
        clear hc2
        rw [Z.out, errV_zero]
        go_wp2_with fail
        refine (hunk_check_any c.hunks _ _ (h.never hw)).mono ?_
        rintro e w3 ⟨rfl, hc3⟩
        have hw := hw.trans hc3
        have b0 := hc3.cellNever b0
        have b1 := hc3.cellNever b1
        have b2 := hc3.cellNever b2
        clear hc3
        rw [errV_pos Y.out]
        clear b0 b1 b2
        go_wp2_with fail
        go_ret
        exact ⟨by rw [E.out, errV_pos Y.out]; rfl, hw⟩
    · have E := Lib.hid (cf_path r z)
      have Z := Lib.hid z
      clear r z
      go_enter Tryz.func113, Tryz.ntmps113
      go_wp2_with fail
      generalize w.alloc (.cells #[.int .i64 c.what, .string c.path, .slice a c.hunks.length cap] 85) = wA at hA b0 b1 b2 ⊢
      refine (line_path_any c.path _ m (hA.cellNever hm)).mono ?_
      rintro e w2 ⟨rfl, hc2⟩
      have hw := hA.trans hc2
      have b0 := hc2.cellNever b0
      have b1 := hc2.cellNever b1
      have b2 := hc2.cellNever b2
      clear hc2
      rw [errV_pos Z.out]
      clear b0 b1 b2
      go_wp2_with fail
      go_ret
      exact ⟨by rw [E.out, errV_pos Z.out]; rfl, hw⟩
def prevC (t : List Change) (k : Nat) : Option ByteArray := if k = 0 then none else (t[k - 1]?).map (·.path)
theorem prevC_succ {t : List Change} {k : Nat} {f : Change} (h : t[k]? = some f) : prevC t (k + 1) = some f.path := by unfold prevC; simp [h]
theorem patchGo_next {t : List Change} {k : Nat} {f : Change} {prev : Option ByteArray} (hd : t.drop k = f :: t.drop (k + 1)) (h1 : changeFault f = 0) (h2 : prev.any (fun p => leqB f.path p) = false) : patchGo k prev (t.drop k) = patchGo (k + 1) (some f.path) (t.drop (k + 1)) := by
  rw [hd, patchGo, if_neg (by simp [h1]), if_neg (by rw [h2]; decide)]
theorem patchGo_bad {t : List Change} {k : Nat} {f : Change} {prev : Option ByteArray} (hd : t.drop k = f :: t.drop (k + 1)) (h1 : changeFault f ≠ 0) : patchGo k prev (t.drop k) = (k, changeFault f) := by
  rw [hd, patchGo, if_pos h1]
theorem patchGo_order {t : List Change} {k : Nat} {f : Change} {p : ByteArray} (hd : t.drop k = f :: t.drop (k + 1)) (h1 : changeFault f = 0) (h2 : leqB f.path p = true) : patchGo k (some p) (t.drop k) = (k, 2) := by
  rw [hd, patchGo, if_neg (by simp [h1]), if_pos (by simpa using h2)]
theorem patchGo_end {t : List Change} {prev : Option ByteArray} : patchGo t.length prev (t.drop t.length) = (0, 0) := by rw [List.drop_length]; rfl
set_option maxHeartbeats 2000000 in
set_option maxRecDepth 100000 in
theorem patch_check_any (t : List Change) (v : Value) (w : World) (h : Rdv w Never v t) (m : Int) (hm : w.cell? ⟨1, 0, none⟩ = some (.int .i64 m)) :
    Calls Tryz.prog 70 #[v] w fun e w' => e = .returned (.tuple #[.int .i64 (patchFault t).1, errV (patchFault t).2]) ∧ Chg Never w w' := by
  obtain ⟨a, cap, rfl, h1, h2, h3⟩ := rdv_slice h
  unfold maxLen at h2
  by_cases h8 : 16 < t.length
  · have HF : Hid (patchFault t = (0, 3)) := if_pos h8
    go_enter Tryz.func70, Tryz.ntmps70
    go_wp2_with fail
    go_ret2
    exact ⟨by rw [HF.out]; rfl, Chg.refl _ _⟩
  · have HF : Hid (patchFault t = patchGo 0 (prevC t 0) (t.drop 0)) := if_neg h8
    go_enter Tryz.func70, Tryz.ntmps70
    go_wp2_with fail
    go_loopw [13] (fun i wr => ∃ k : Nat, k ≤ t.length ∧ i = .int .i64 k ∧ Chg Never w wr ∧ Hid (patchFault t = patchGo k (prevC t k) (t.drop k))) (fun i _ => t.length - (intOf i).toNat)
    case atStart => exact ⟨0, Nat.zero_le _, rfl, Chg.refl _ _, HF.out⟩
    case round =>
      clear HF
      obtain ⟨k, hk, rfl, hc, hG⟩ := hrel
      by_cases hlt : k < t.length
      · obtain ⟨x, hx⟩ : ∃ x, t[k]? = some x := ⟨t[k], by simp [hlt]⟩
        obtain ⟨b, off, lv, rfl, _, _, c0, c1, c2, hps, hlv⟩ := elems_change h3 hx
        obtain ⟨la, lcap, rfl, _, _, _⟩ := rdv_slice hlv
        have c0 := hc.cellNever c0
        have c1 := hc.cellNever c1
        have c2 := hc.cellNever c2
        have hlv := hlv.never hc
        have HD := Lib.hid (drop_eq hx)
        have HPV := Lib.hid (prevC_succ hx)
        have HX := Lib.hid hx
        obtain ⟨hA, b0, b1, b2⟩ := box1_change wr 85 x.what x.path (.slice la x.hunks.length lcap) _ rfl
        clear hx
        by_cases p0 : changeFault x = 0
        · have HFF := Lib.hid p0
          clear p0
          go_wp2_with fail
          generalize wr.alloc (.cells #[.int .i64 x.what, .string x.path, .slice la x.hunks.length lcap] 85) = w3 at hA b0 b1 b2 ⊢
          have hc3 := hc.trans hA
          refine (patch_one_any x _ _ (hlv.never hA) m (hc3.cellNever hm)).mono ?_
          rintro e w4 ⟨rfl, hc4⟩
          have b1 := hc4.cellNever b1
          have hcD := hc3.trans hc4
          clear hc4 hc3 hA c0 c1 c2 b0 b2
          rw [HFF.out, errV_zero]
          rcases Nat.eq_zero_or_pos k with h0 | h0
          · subst h0
            have HNX : Hid (patchFault t = patchGo (0 + 1) (prevC t (0 + 1)) (t.drop (0 + 1))) := by rw [Hid, HPV.out, hG.out]; exact patchGo_next HD.out HFF.out rfl
            clear hG
            go_wp2_with fail
            go_quiet (fail)
            go_wp2_with fail
            go_roundw
            case rel => exact ⟨0 + 1, by omega, by go_num, hcD.drewN _, HNX⟩
            case measure => simp [intOf] <;> omega
          · obtain ⟨k', rfl⟩ : ∃ k', k = k' + 1 := ⟨k - 1, by omega⟩
            obtain ⟨y, hy⟩ : ∃ y, t[k']? = some y := ⟨t[k']'(by omega), by simp [show k' < t.length by omega]⟩
            obtain ⟨b', off', lv', hbo, _, _, _, y0, _, _, _⟩ := elems_change h3 hy
            simp only [Option.some.injEq, Addr.mk.injEq, and_true] at hbo
            obtain ⟨rfl, rfl⟩ := hbo
            have y0 := hcD.cellNever y0
            have HPY : Hid (prevC t (k' + 1) = some y.path) := prevC_succ hy
            have z1 : (k' : Int) + 1 - 1 = k' := by omega
            have z2 : decide ((0 : Int) < (k' : Int) + 1) = true := decide_eq_true (by omega)
            clear hy
            rcases less_tri x.path y.path with g | g | g
            · have HE : Hid (patchFault t = (k' + 1, 2)) := by rw [Hid, hG.out, HPY.out]; exact patchGo_order HD.out HFF.out (leqB_true.2 (less_asymm g))
              have a1 : Op.bytesLess x.path.toList y.path.toList = true := g
              clear g hG
              go_wp2_with fail
              go_quiet (fail)
              go_wp2_with fail; go_ret2; exact ⟨by rw [HE.out]; rfl, hcD.drewN _⟩
            · have HE : Hid (patchFault t = (k' + 1, 2)) := by rw [Hid, hG.out, HPY.out]; exact patchGo_order HD.out HFF.out (leqB_true.2 (by rw [g]; exact less_irrefl _))
              have a1 : Op.bytesLess x.path.toList y.path.toList = false := by rw [g]; exact bl_irrefl _
              have a2 : (x.path.toList == y.path.toList) = true := by rw [g]; exact beq_self_eq_true _
              clear g hG
              go_wp2_with fail
              go_quiet (fail)
              go_wp2_with fail; go_ret2; exact ⟨by rw [HE.out]; rfl, hcD.drewN _⟩
            · have HNX : Hid (patchFault t = patchGo (k' + 1 + 1) (prevC t (k' + 1 + 1)) (t.drop (k' + 1 + 1))) := by
                rw [Hid, HPV.out, hG.out]
                refine patchGo_next HD.out HFF.out ?_
                rw [HPY.out, Option.any_some, Bool.eq_false_iff]
                intro e
                rw [leqB_true.1 e] at g; cases g
              have a1 : Op.bytesLess x.path.toList y.path.toList = false := less_asymm g
              have a2 := str_beq_false (less_ne g).symm
              clear g hG
              go_wp2_with fail
              go_quiet (fail)
              go_wp2_with fail
              go_roundw
              case rel => exact ⟨k' + 1 + 1, by omega, by go_num, hcD.drewN _, HNX⟩
              case measure => simp [intOf] <;> omega
        · have HE : Hid (patchFault t = (k, changeFault x)) := by rw [Hid, hG.out, patchGo_bad HD.out p0]
          have P0 := Lib.hid p0
          clear p0 hG
          go_wp2_with fail
          generalize wr.alloc (.cells #[.int .i64 x.what, .string x.path, .slice la x.hunks.length lcap] 85) = w3 at hA b0 b1 b2 ⊢
          have hc3 := hc.trans hA
          refine (patch_one_any x _ _ (hlv.never hA) m (hc3.cellNever hm)).mono ?_
          rintro e w4 ⟨rfl, hc4⟩
          have b1 := hc4.cellNever b1
          have hcD := hc3.trans hc4
          clear hc4 hc3 hA c0 c1 c2 b0 b2
          rw [errV_pos P0.out]
          go_wp2_with fail
          go_ret2
          exact ⟨by rw [HE.out, errV_pos P0.out]; rfl, hcD⟩
      · obtain rfl : k = t.length := by omega
        have e := hG.out
        rw [patchGo_end] at e
        have HE := Lib.hid e
        clear hG e
        go_wp2_with fail
        go_ret2
        exact ⟨by rw [HE.out]; rfl, hc⟩
end Go.Proofs.YtjiaidchcldocaaGreatDoor
namespace Go.Proofs.YtjiaidchcldocaaGreatDoor
open Go.RowKit

theorem own_made {α : Type} [Dat α] (w : World) (e : TypeId) : Own e (w.alloc (.cells #[] e)) (Old w.heap.size) (.slice (some ⟨w.heap.size, 0, none⟩) 0 0) ([] : List α) :=
  ⟨[], World.ownsRow_made w #[] 0 (Nat.zero_le _) (by unfold maxLen; omega) (by simp), fun k hk ho => by
    simp only [Value.ownBlock, Option.some.injEq] at hk
    subst hk
    unfold Old at ho
    omega, fun i x hi => by simp at hi⟩

set_option maxHeartbeats 800000 in
set_option maxRecDepth 100000 in
theorem clone_str (O : Nat → Prop) (l : List ByteArray) (v : Value) (w : World) (h : Rdv w O v l) (hl : l.length ≤ 1000000) :
    Calls Tryz.prog 92 #[v] w fun e w' => ∃ r, e = .returned r ∧ Chg Never w w' ∧ Own 9 w' (Old w.heap.size) r l := by
  obtain ⟨a, cap, rfl, h1, h2, h3⟩ := rdv_slice h
  unfold maxLen at h2
  cases a with
  | none =>
    have hn : l = [] := by
      cases l with
      | nil => rfl
      | cons x l =>
        obtain ⟨b, off, es, ha, _⟩ := h3 0 x rfl
        cases ha
    subst hn
    have he : ∀ wx, (binOp .eql 86 (.slice none 0 cap) (.slice none 0 0)).run Tryz.prog wx = .ok (.bool true) wx := fun wx => Lib.run_eql_slice_nil wx 86 9 none 0 cap 0 0 Tryz.underlying86
    go_enter Tryz.func92, Tryz.ntmps92
    go_wp2_with fail
    go_ret
    exact ⟨_, rfl, Chg.refl _ _, own_nil _ _ _⟩
  | some a =>
    have hm := own_made (α := ByteArray) w 9
    have hA : Chg Never w (w.alloc (.cells #[] 9)) := (Chg.refl Never w).alloc _
    have hr := (h.sub (O' := Never) (fun _ _ h => h.elim)).never hA
    have hO : ∀ k, Old w.heap.size k → k < (w.alloc (.cells #[] 9)).heap.size := by
      intro k hk
      unfold Old at hk
      simp
      omega
    have hle : ([] : List ByteArray).length + l.length ≤ 1000000000 := by simp; omega
    clear h3 h
    have he : ∀ wx, (binOp .eql 86 (.slice (some a) l.length cap) (.slice none 0 0)).run Tryz.prog wx = .ok (.bool false) wx := fun wx => Lib.run_eql_slice_nil wx 86 9 (some a) l.length cap 0 0 Tryz.underlying86
    go_enter Tryz.func92, Tryz.ntmps92
    go_wp2_with (at_builtin; refine wpList_many (by rfl) _ _ 86 (by rfl) elemOk_str (O := Old w.heap.size) (by rfl) (by rfl) hm hr (rd_str_any _ _ _) hO hle ?_; intro v' w5 hown2 hc2)
    have hc3 := own_step hA hm hc2
    clear hm hr hc2
    go_wp2_with fail
    go_ret
    exact ⟨_, rfl, hc3, hown2⟩
end Go.Proofs.YtjiaidchcldocaaGreatDoor
namespace Go.Proofs.YtjiaidchcldocaaGreatDoor
open Go.RowKit

theorem tk {P : Program} {md : Region.Mode} {ops : Array Oper} {Q : Exit → Act → World → Prop} {S : World → Prop} (i : Nat) {oi : Oper} {v : Value} {fuel : Nat} {listed l : Array Bool} {a b : Act} {w : World}
    (h : wpAnyH P md ops Q S fuel l b w)
    (hi : ops[i]? = some oi := by ((try simp only [List.getElem?_toArray, List.getElem?_cons_succ, List.getElem?_cons_zero]); rfl))
    (hs : Region.noSelect ops = true := by kernel_rfl) (hf : Region.free md ops listed i = true := by kernel_rfl) (hr : (Region.ready md ops listed).contains i = true := by kernel_rfl)
    (hQ : ∀ c a w, Q (.panic c) (a.put oi.dst v) w → Q (.panic c) a w := by exact fun _ _ _ h => h)
    (hw : Region.wanted oi (yielded ops a.tmps) = true := by rfl)
    (hy : ∀ w, S w → (execOp a.eval oi).run P w = .ok (.value v) w := by (intro w' hSw; (try dsimp only at hSw); go_simp; all_goals with_reducible rfl))
    (hS : S w := by assumption)
    (hl : listed.setIfInBounds i true = l := by ((try simp only [List.setIfInBounds_toArray, List.set_cons_zero, List.set_cons_succ]); (try rfl)))
    (hb : a.put oi.dst v = b := by ((try simp only [Act.put, List.setIfInBounds_toArray, List.set_cons_zero, List.set_cons_succ]); (try rfl))) :
    wpAnyH P md ops Q S (fuel + 1) listed a w := by
  subst hl hb
  exact wpAnyH_take hi hs hf hr hQ (Or.inl ⟨hw, hy⟩) hS h
theorem sk {P : Program} {md : Region.Mode} {ops : Array Oper} {Q : Exit → Act → World → Prop} {S : World → Prop} (i : Nat) {oi : Oper} {fuel : Nat} {listed l : Array Bool} {a b : Act} {w : World}
    (h : wpAnyH P md ops Q S fuel l b w)
    (hi : ops[i]? = some oi := by ((try simp only [List.getElem?_toArray, List.getElem?_cons_succ, List.getElem?_cons_zero]); rfl))
    (hs : Region.noSelect ops = true := by kernel_rfl) (hf : Region.free md ops listed i = true := by kernel_rfl) (hr : (Region.ready md ops listed).contains i = true := by kernel_rfl)
    (hQ : ∀ c a w, Q (.panic c) (a.put oi.dst undef) w → Q (.panic c) a w := by exact fun _ _ _ h => h)
    (hw : Region.wanted oi (yielded ops a.tmps) = false := by rfl)
    (hS : S w := by assumption)
    (hl : listed.setIfInBounds i true = l := by ((try simp only [List.setIfInBounds_toArray, List.set_cons_zero, List.set_cons_succ]); (try rfl)))
    (hb : a.put oi.dst undef = b := by ((try simp only [Act.put, List.setIfInBounds_toArray, List.set_cons_zero, List.set_cons_succ]); (try rfl))) :
    wpAnyH P md ops Q S (fuel + 1) listed a w := by
  subst hl hb
  exact wpAnyH_take hi hs hf hr hQ (Or.inr ⟨hw, rfl⟩) hS h
end Go.Proofs.YtjiaidchcldocaaGreatDoor
namespace Go.Proofs.YtjiaidchcldocaaGreatDoor
open Go.RowKit

theorem run_many2 {P : Program} {α : Type} [Dat α] {t ty e : TypeId} (hP : ElemOk P t e (Dat.n α)) {w0 : World} {O : Nat → Prop} {v x : Value} {l m : List α}
    (hown : Own e w0 O v l) (hx : Rdv w0 (fun k => O k ∨ v.ownBlock = some k) x m) (hO : ∀ k, O k → k < w0.heap.size) (hlen : l.length + m.length ≤ 1000000000) :
    ∃ v' w', (Builtin.append_ #[t, t] ty #[v, x]).run P w0 = .ok v' w' ∧ Own e w' O v' (l ++ m) ∧ Chg (OwnB v) w0 w' ∧ (∀ k, v'.ownBlock = some k → v.ownBlock = some k ∨ w0.heap.size ≤ k) := by
  obtain ⟨a, cap, rfl, c1, c2, hel⟩ := rdv_slice hx
  rcases Nat.eq_zero_or_pos m.length with h0 | hpos
  · have : m = [] := List.eq_nil_of_length_eq_zero h0
    subst this
    refine ⟨v, w0, ?_, by rw [List.append_nil]; exact hown, Chg.refl _ _, fun k hk => .inl hk⟩
    obtain ⟨xs, hrow, _⟩ := hown
    exact run_append_empty hP hrow a cap
  · obtain ⟨b, off, rfl⟩ : ∃ b off, a = some ⟨b, off, none⟩ := by
      obtain ⟨b, off, es, ha, _⟩ := hel 0 m[0] (by simp [hpos])
      exact ⟨b, off, ha⟩
    obtain ⟨i, z, hi, hz, hsz, hzs, hby⟩ := hP.info
    obtain ⟨xs, hrow, hb, hels⟩ := id hown
    obtain ⟨news, n1, n2, n3, n4⟩ := elems_cells hel m.length (Nat.le_refl _)
    have hpos' := Dat.pos (α := α)
    have hcells : ∀ j u, news[j]? = some u → w0.cell? ((⟨b, off, none⟩ : Addr).add j) = some u := by
      intro j u hj
      have e1 : (⟨b, off, none⟩ : Addr).add j = ⟨b, off + j, none⟩ := by unfold Addr.add; split <;> simp_all
      rw [e1]
      exact n2 j u hj
    have hbound : (l.length + m.length) * i.bytes ≤ 140737488355328 := by
      have := Nat.mul_le_mul hlen hby
      omega
    obtain ⟨v', w', hrun, hown', hgrow, hnil⟩ := run_append_own (P := P) w0 0 t ty e i z (Dat.n α) i.bytes hP.ht hi hz hsz rfl hzs hpos' v l.length xs hrow
      ⟨b, off, none⟩ m.length cap news n1 hcells n3 (by unfold maxLen; omega) hbound (Nat.zero_le _)
    obtain ⟨kb, hkb, hkb'⟩ := append_block (P := P) w0 0 t ty e i z (Dat.n α) i.bytes hP.ht hi hz hsz rfl v l.length xs hrow
      ⟨b, off, none⟩ m.length cap news n1 hcells n3 (by unfold maxLen; omega) hbound (by omega) hrun
    have hc : Chg (OwnB v) w0 w' := Chg.of_grown hgrow
    have hsub : ∀ k, k < w0.heap.size → (O k ∨ v'.ownBlock = some k) → (O k ∨ v.ownBlock = some k) := by
      rintro k hk (h | h)
      · exact .inl h
      · rw [hkb] at h
        injection h with h
        subst h
        rcases hkb' with h | h
        · exact .inr h
        · omega
    refine ⟨v', w', hrun, ⟨xs ++ news, ?_, ?_, ?_⟩, hc, fun k hk => by rw [hkb] at hk; injection hk with hk; subst hk; exact hkb'.imp_right (fun h => Nat.le_of_eq h.symm)⟩
    · rw [List.length_append]; exact hown'
    · intro k hk ho
      rw [hkb] at hk
      injection hk with hk
      subst hk
      rcases hkb' with h | h
      · exact hb _ h ho
      · exact absurd (hO _ ho) (by omega)
    · intro j y hj
      have hxl : xs.length = l.length * Dat.n α := hrow.1
      rcases Nat.lt_or_ge j l.length with hjl | hjl
      · rw [List.getElem?_append_left hjl] at hj
        have hle : j * Dat.n α + Dat.n α ≤ xs.length := by rw [hxl, ← Nat.succ_mul]; exact Nat.mul_le_mul_right _ hjl
        rw [List.drop_append_of_le_length (by omega), List.take_append_of_le_length (by rw [List.length_drop]; omega)]
        exact Dat.keep (hels j y hj) hc (fun k _ hk => .inr hk) hsub
      · rw [List.getElem?_append_right hjl] at hj
        have hjm := (List.getElem?_eq_some_iff.1 hj).1
        have e1 : (xs ++ news).drop (j * Dat.n α) = news.drop ((j - l.length) * Dat.n α) := by
          have e2 : j * Dat.n α = xs.length + (j - l.length) * Dat.n α := by rw [hxl, ← Nat.add_mul]; congr 1; omega
          rw [e2, List.drop_append]
          simp
        rw [e1]
        exact Dat.keep (n4 _ y hjm hj) hc (fun k _ hk => .inr hk) hsub

theorem wpList_many2 {P : Program} {ops : Array Oper} {rest : List Oper} {o : Oper} {a : Act} {Q : Exit → Act → World → Prop} (hgd : o.guard = none) (s x : Operand) (t : TypeId)
    (ho : o.op = .call { callee := .builtin .append, args := #[s, x], argTypes := #[t, t] }) {α : Type} [Dat α] {e : TypeId} (hP : ElemOk P t e (Dat.n α)) {w0 : World} {O : Nat → Prop} {v u : Value} {l m : List α}
    (hs : a.eval s = v) (hx : a.eval x = u) (hown : Own e w0 O v l) (hu : Rdv w0 (fun k => O k ∨ v.ownBlock = some k) u m) (hO : ∀ k, O k → k < w0.heap.size) (hlen : l.length + m.length ≤ 1000000000)
    (h : ∀ v' w', Own e w' O v' (l ++ m) → Chg (OwnB v) w0 w' → (∀ k, v'.ownBlock = some k → v.ownBlock = some k ∨ w0.heap.size ≤ k) → wpList P ops Q rest (a.put o.dst v') w') :
    wpList P ops Q (o :: rest) a w0 := by
  refine wpList_plain hgd fun K hK => ?_
  obtain ⟨v', w', hrun, h1, h2, h3⟩ := run_many2 (ty := o.type) hP hown hu hO hlen
  unfold Oper.wp execOp
  simp only [ho, resolve, invoke, builtin, Sem.run_bind, Sem.run_pure, Result.andThen_ok, List.map_toArray, List.map_cons, List.map_nil, hs, hx, hrun]
  exact hK _ _ (h v' w' h1 h2 h3)

structure OwnN {α : Type} [Dat α] (e : TypeId) (w0 wr : World) (v : Value) (l : List α) : Prop where
  own : Own e wr Never v l
  new : ∀ k, v.ownBlock = some k → w0.heap.size ≤ k
  chg : Chg Never w0 wr
theorem ownN_nil {α : Type} [Dat α] (e : TypeId) {w0 wr : World} (h : Chg Never w0 wr) : OwnN e w0 wr (.slice none 0 0) ([] : List α) :=
  ⟨own_nil _ _ _, fun k hk => by simp [Value.ownBlock] at hk, h⟩
theorem OwnN.step {α : Type} [Dat α] {e : TypeId} {w0 wr w' : World} {v v' : Value} {l l' : List α} (h : OwnN e w0 wr v l) (hown : Own e w' Never v' l') (hc : Chg (OwnB v) wr w') (hk : ∀ k, v'.ownBlock = some k → v.ownBlock = some k ∨ wr.heap.size ≤ k) : OwnN e w0 w' v' l' :=
  ⟨hown, fun k hk' => (hk k hk').elim (h.new k) (fun hh => Nat.le_trans h.chg.size hh), h.chg.trans' hc (fun i hi hh => absurd (h.new i hh) (by omega))⟩
theorem OwnN.step1 {α : Type} [Dat α] {e : TypeId} {w0 wr w' : World} {v v' : Value} {l l' : List α} (h : OwnN e w0 wr v l) (hown : Own e w' Never v' l') (hc : Chg (OwnB v) wr w') (hk : ∃ k, v'.ownBlock = some k ∧ (v.ownBlock = some k ∨ wr.heap.size ≤ k)) : OwnN e w0 w' v' l' :=
  h.step hown hc (fun k hk' => by
    obtain ⟨j, h1, h2⟩ := hk
    rw [h1] at hk'
    injection hk' with hk'
    subst hk'
    exact h2)
theorem OwnN.never {α : Type} [Dat α] {e : TypeId} {w0 wr w' : World} {v : Value} {l : List α} (h : OwnN e w0 wr v l) (hc : Chg Never wr w') : OwnN e w0 w' v l := ⟨h.own.never hc, h.new, h.chg.trans hc⟩
theorem OwnN.away {α β : Type} [Dat α] [Dat β] {e : TypeId} {w0 wr : World} {v u : Value} {l : List α} {x : β} (h : OwnN e w0 wr v l) (hu : Rdv w0 Never u x) : Rdv wr (fun k => Never k ∨ v.ownBlock = some k) u x :=
  (hu.sub (O' := fun k => Never k ∨ v.ownBlock = some k) (fun k hk hh => by
    rcases hh with hh | hh
    · exact hh
    · exact absurd (h.new k hh) (by omega))).never h.chg
end Go.Proofs.YtjiaidchcldocaaGreatDoor
namespace Go.Proofs.YtjiaidchcldocaaGreatDoor
open Go.RowKit

theorem OwnN.fresh {α β : Type} [Dat α] [Dat β] {e : TypeId} {w0 wr w' : World} {v u : Value} {l : List α} {x : β} (h : OwnN e w0 wr v l) (hu : Rdv w' (Old wr.heap.size) u x) : Rdv w' (fun k => Never k ∨ v.ownBlock = some k) u x :=
  hu.sub (fun k _ hh => by
    rcases hh with hh | hh
    · exact hh.elim
    · exact own_block_lt h.own k hh)
structure OwnO {α : Type} [Dat α] (e : TypeId) (w0 wr : World) (v : Value) (l : List α) : Prop where
  own : Own e wr (Old w0.heap.size) v l
  chg : Chg Never w0 wr
theorem ownO_nil {α : Type} [Dat α] (e : TypeId) {w0 wr : World} (h : Chg Never w0 wr) : OwnO e w0 wr (.slice none 0 0) ([] : List α) := ⟨own_nil _ _ _, h⟩
theorem OwnO.never {α : Type} [Dat α] {e : TypeId} {w0 wr w' : World} {v : Value} {l : List α} (h : OwnO e w0 wr v l) (hc : Chg Never wr w') : OwnO e w0 w' v l := ⟨h.own.never hc, h.chg.trans hc⟩
theorem OwnO.step1 {α : Type} [Dat α] {e : TypeId} {w0 wr w' : World} {v v' : Value} {l l' : List α} (h : OwnO e w0 wr v l) (hown : Own e w' (Old w0.heap.size) v' l') (hc : Chg (OwnB v) wr w') : OwnO e w0 w' v' l' := ⟨hown, own_step h.chg h.own hc⟩
theorem OwnO.fresh {α β : Type} [Dat α] [Dat β] {e : TypeId} {w0 wr w' : World} {v u : Value} {l : List α} {x : β} (h : OwnO e w0 wr v l) (hu : Rdv w' (Old wr.heap.size) u x) : Rdv w' (fun k => Old w0.heap.size k ∨ v.ownBlock = some k) u x :=
  hu.sub (fun k _ hh => by
    rcases hh with hh | hh
    · exact Nat.lt_of_lt_of_le hh h.chg.size
    · exact own_block_lt h.own k hh)
theorem OwnO.olds {α : Type} [Dat α] {e : TypeId} {w0 wr : World} {v : Value} {l : List α} (h : OwnO e w0 wr v l) : ∀ k, Old w0.heap.size k → k < wr.heap.size := fun _ hk => Nat.lt_of_lt_of_le hk h.chg.size
end Go.Proofs.YtjiaidchcldocaaGreatDoor
namespace Go.Proofs.YtjiaidchcldocaaGreatDoor
open Go.RowKit

def RdL {α : Type} [Dat α] (w : World) (O : Nat → Prop) : List α → List (List Value) → Prop
  | [], [] => True
  | x :: l, c :: r => Dat.rd w O c x ∧ RdL w O l r
  | _, _ => False
theorem RdL.len {α : Type} [Dat α] {w : World} {O : Nat → Prop} : ∀ {l : List α} {r : List (List Value)}, RdL w O l r → r.length = l.length ∧ ∀ c ∈ r, c.length = Dat.n α
  | [], [], _ => ⟨rfl, by simp⟩
  | x :: l, c :: r, h => by
    obtain ⟨h1, h2⟩ := RdL.len h.2
    refine ⟨by rw [List.length_cons, List.length_cons, h1], fun y hy => ?_⟩
    rcases List.mem_cons.1 hy with rfl | hy
    · exact Dat.len h.1
    · exact h2 y hy
  | [], _ :: _, h => h.elim
  | _ :: _, [], h => h.elim
theorem RdL.one {α : Type} [Dat α] {w : World} {O : Nat → Prop} : ∀ {l : List α} {r : List (List Value)}, RdL w O l r → ∀ c ∈ r, ∀ u ∈ c, u.oneCell' = true
  | [], [], _ => by simp
  | x :: l, c :: r, h => by
    intro y hy
    rcases List.mem_cons.1 hy with rfl | hy
    · exact Dat.one h.1
    · exact RdL.one h.2 y hy
  | [], _ :: _, h => h.elim
  | _ :: _, [], h => h.elim
theorem RdL.take {α : Type} [Dat α] {w : World} {O : Nat → Prop} : ∀ {l : List α} {r : List (List Value)} (k : Nat), RdL w O l r → RdL w O (l.take k) (r.take k)
  | _, _, 0, _ => trivial
  | [], [], _ + 1, _ => trivial
  | _ :: _, _ :: _, k + 1, h => ⟨h.1, RdL.take k h.2⟩
  | [], _ :: _, _ + 1, h => h.elim
  | _ :: _, [], _ + 1, h => h.elim
theorem RdL.drop {α : Type} [Dat α] {w : World} {O : Nat → Prop} : ∀ {l : List α} {r : List (List Value)} (k : Nat), RdL w O l r → RdL w O (l.drop k) (r.drop k)
  | _, _, 0, h => h
  | [], [], _ + 1, _ => trivial
  | _ :: _, _ :: _, k + 1, h => RdL.drop k h.2
  | [], _ :: _, _ + 1, h => h.elim
  | _ :: _, [], _ + 1, h => h.elim
theorem RdL.app {α : Type} [Dat α] {w : World} {O : Nat → Prop} : ∀ {l m : List α} {r s : List (List Value)}, RdL w O l r → RdL w O m s → RdL w O (l ++ m) (r ++ s)
  | [], _, [], _, _, g => g
  | _ :: _, _, _ :: _, _, h, g => ⟨h.1, RdL.app h.2 g⟩
  | [], _, _ :: _, _, h, _ => h.elim
  | _ :: _, _, [], _, h, _ => h.elim
theorem RdL.keep {α : Type} [Dat α] {w w' : World} {O O' O'' : Nat → Prop} (hc : Chg O' w w') (h1 : ∀ k, k < w.heap.size → O' k → O k) (h2 : ∀ k, k < w.heap.size → O'' k → O k) : ∀ {l : List α} {r : List (List Value)}, RdL w O l r → RdL w' O'' l r
  | [], [], _ => trivial
  | _ :: _, _ :: _, h => ⟨Dat.keep h.1 hc h1 h2, RdL.keep hc h1 h2 h.2⟩
  | [], _ :: _, h => h.elim
  | _ :: _, [], h => h.elim
theorem RdL.get {α : Type} [Dat α] {w : World} {O : Nat → Prop} : ∀ {l : List α} {r : List (List Value)}, RdL w O l r → ∀ (i : Nat) (x : α), l[i]? = some x → Dat.rd w O ((r.flatten.drop (i * Dat.n α)).take (Dat.n α)) x
  | [], [], _, i, x, hx => by simp at hx
  | y :: l, c :: r, h, 0, x, hx => by
    simp only [List.getElem?_cons_zero, Option.some.injEq] at hx
    subst hx
    have e : ((c :: r).flatten.drop (0 * Dat.n α)).take (Dat.n α) = c := by
      rw [Nat.zero_mul, List.drop_zero, List.flatten_cons, ← Dat.len h.1, List.take_left]
    rw [e]; exact h.1
  | y :: l, c :: r, h, i + 1, x, hx => by
    have := RdL.get h.2 i x (by simpa using hx)
    have e : (c :: r).flatten.drop ((i + 1) * Dat.n α) = r.flatten.drop (i * Dat.n α) := by
      rw [List.flatten_cons, Nat.succ_mul, Nat.add_comm, ← List.drop_drop, ← Dat.len h.1, List.drop_left]
    rw [e]; exact this
  | [], _ :: _, h, _, _, _ => h.elim
  | _ :: _, [], h, _, _, _ => h.elim
theorem rdl_of {α : Type} [Dat α] {w : World} {O : Nat → Prop} : ∀ (l : List α) (xs : List Value), xs.length = l.length * Dat.n α → (∀ (i : Nat) (x : α), l[i]? = some x → Dat.rd w O ((xs.drop (i * Dat.n α)).take (Dat.n α)) x) → ∃ r, RdL w O l r ∧ r.flatten = xs
  | [], xs, h, _ => ⟨[], trivial, by
    have : xs = [] := List.eq_nil_of_length_eq_zero (by rw [h]; simp)
    rw [this]; rfl⟩
  | x :: l, xs, h, g => by
    obtain ⟨r, h1, h2⟩ := rdl_of l (xs.drop (Dat.n α)) (by rw [List.length_drop, h, List.length_cons, Nat.succ_mul]; omega) (fun i y hy => by
      have := g (i + 1) y (by simpa using hy)
      rw [List.drop_drop]
      rwa [show Dat.n α + i * Dat.n α = (i + 1) * Dat.n α by rw [Nat.succ_mul, Nat.add_comm]])
    have := g 0 x rfl
    rw [Nat.zero_mul, List.drop_zero] at this
    exact ⟨xs.take (Dat.n α) :: r, ⟨this, h1⟩, by rw [List.flatten_cons, h2, List.take_append_drop]⟩
theorem cells_len {q : Nat} : ∀ {r : List (List Value)}, (∀ c ∈ r, c.length = q) → r.flatten.length = r.length * q
  | [], _ => by simp
  | c :: r, h => by
    rw [List.flatten_cons, List.length_append, cells_len (r := r) (fun x hx => h x (List.mem_cons_of_mem _ hx)), h c (List.mem_cons_self ..), List.length_cons, Nat.succ_mul, Nat.add_comm]
theorem cells_take {q : Nat} : ∀ (r : List (List Value)) (k : Nat), (∀ c ∈ r, c.length = q) → r.flatten.take (k * q) = (r.take k).flatten
  | _, 0, _ => by simp
  | [], _ + 1, _ => by simp
  | c :: r, k + 1, h => by
    have e := h c (List.mem_cons_self ..)
    rw [List.take_succ_cons, List.flatten_cons, List.flatten_cons, ← cells_take r k (fun x hx => h x (List.mem_cons_of_mem _ hx)), Nat.succ_mul, Nat.add_comm, ← e, List.take_length_add_append]
theorem cells_drop {q : Nat} : ∀ (r : List (List Value)) (k : Nat), (∀ c ∈ r, c.length = q) → r.flatten.drop (k * q) = (r.drop k).flatten
  | _, 0, _ => by simp
  | [], _ + 1, _ => by simp
  | c :: r, k + 1, h => by
    have e := h c (List.mem_cons_self ..)
    rw [List.drop_succ_cons, List.flatten_cons, ← cells_drop r k (fun x hx => h x (List.mem_cons_of_mem _ hx)), Nat.succ_mul, Nat.add_comm, ← List.drop_drop, ← e, List.drop_left]

theorem own_rows {α : Type} [Dat α] {e : TypeId} {w : World} {O : Nat → Prop} {v : Value} {l : List α} (h : Own e w O v l) (hl : 0 < l.length) :
    ∃ (g cap : Nat) (r : List (List Value)) (tail : List Value), v = .slice (some ⟨g, 0, none⟩) l.length cap ∧ w.heap[g]? = some (.cells (r.flatten ++ tail).toArray e (0, 0)) ∧ (r.flatten ++ tail).length = cap * Dat.n α ∧ l.length ≤ cap ∧ cap ≤ maxLen ∧ ¬ O g ∧ RdL w (fun k => O k ∨ k = g) l r := by
  obtain ⟨xs, hx, hO, hr⟩ := h
  rcases hx.2 with ⟨_, h0⟩ | ⟨g, cap, cur, rfl, _, hg, hle, hcm, hcs, htk⟩
  · omega
  · have hr' : ∀ (i : Nat) (x : α), l[i]? = some x → Dat.rd w (fun k => O k ∨ k = g) ((xs.drop (i * Dat.n α)).take (Dat.n α)) x := fun i x hx => Dat.keep (hr i x hx) (Chg.refl Never w) (fun _ _ h => h.elim) (fun k _ hk => hk.imp_right (fun e => by rw [e]; rfl))
    obtain ⟨r, h1, h2⟩ := rdl_of l xs hx.1 hr'
    have e : r.flatten ++ cur.toList.drop (l.length * Dat.n α) = cur.toList := by rw [h2, ← htk, List.take_append_drop]
    refine ⟨g, cap, r, cur.toList.drop (l.length * Dat.n α), rfl, by rw [e]; exact hg, by rw [e]; simpa using hcs, hle, hcm, hO g rfl, h1⟩
theorem own_laid {α : Type} [Dat α] {e : TypeId} {w : World} {O : Nat → Prop} {l : List α} {g cap : Nat} {r : List (List Value)} {tail : List Value} (hg : w.heap[g]? = some (.cells (r.flatten ++ tail).toArray e (0, 0))) (hs : (r.flatten ++ tail).length = cap * Dat.n α) (hle : l.length ≤ cap) (hcm : cap ≤ maxLen) (hO : ¬ O g)
    (hr : RdL w (fun k => O k ∨ k = g) l r) : Own e w O (.slice (some ⟨g, 0, none⟩) l.length cap) l := by
  have hl : r.flatten.length = l.length * Dat.n α := by rw [cells_len hr.len.2, hr.len.1]
  refine ⟨r.flatten, ⟨hl, .inr ⟨g, cap, _, rfl, Nat.zero_le _, hg, hle, hcm, by simpa using hs, ?_⟩⟩, ?_, ?_⟩
  · rw [← hl]; exact List.take_left
  · intro k hk
    injection hk with hk
    subst hk
    exact hO
  · intro i x hx
    exact Dat.keep (hr.get i x hx) (Chg.refl Never w) (fun _ _ h => h.elim) (fun k _ hk => hk.imp_right (fun e => by injection e with e; exact e.symm))
theorem chg_setRow (w : World) (g : Nat) (cs : Array Value) : Chg (fun k => k = g) w (w.setRow g cs) :=
  ⟨rfl, rfl, rfl, by simp [World.setRow], fun k _ hk => setRow_other w g k cs hk⟩
theorem row_cell {w : World} {g : Nat} {L : List Value} {e : TypeId} (h : w.heap[g]? = some (.cells L.toArray e (0, 0))) {j : Nat} {u : Value} (hu : L[j]? = some u) : w.cell? ⟨g, j, none⟩ = some u := by
  simp only [World.cell?, h]
  simpa using hu
theorem run_copy_at {P : Program} (w : World) {dT sT ty e : TypeId} {i : TypeInfo} (ht : P.underlying dT = some (.slice e)) (hi : P.info? e = some i) {g d dLen dCap : Nat} {a : Addr} {sLen sCap : Nat} {cs L : List Value}
    (hg : w.heap[g]? = some (.cells L.toArray e (0, 0))) (hn : cs.length = Nat.min sLen dLen * i.size) (hsrc : ∀ j u, cs[j]? = some u → w.cell? (a.add j) = some u) (hfit : d + cs.length ≤ L.length) (h1 : ∀ u ∈ cs, u.oneCell' = true) :
    (Builtin.copy_ #[dT, sT] ty #[.slice (some ⟨g, d, none⟩) dLen dCap, .slice (some a) sLen sCap]).run P w = .ok (goInt (Nat.min sLen dLen)) (w.setRow g (L.take d ++ cs ++ L.drop (d + cs.length)).toArray) := by
  have hf := run_firstCells_some (P := P) w i.size (Nat.min sLen dLen) a sLen sCap cs hn hsrc
  have hst := run_storeCells_at P g d e cs 0 L.toArray w hg (by simpa using hfit) h1
  simp only [Nat.add_zero] at hst
  simp [Builtin.copy_, run_underlying ht, Builtin.lenOf, sizeOf, typeInfo, hi, hf, hst]
theorem run_clear_at {P : Program} (w : World) {t ty e : TypeId} {z : Value} (ht : P.underlying t = some (.slice e)) (hz : ∀ w, (zeroValue e).run P w = .ok z w) {g d c : Nat} {L zs : List Value} (hzs : (Builtin.zeroCells z.cells 1).toList = zs)
    (hg : w.heap[g]? = some (.cells L.toArray e (0, 0))) (hfit : d + zs.length ≤ L.length) (h1 : ∀ u ∈ zs, u.oneCell' = true) :
    (Builtin.clear_ #[t] ty #[.slice (some ⟨g, d, none⟩) 1 c]).run P w = .ok (.tuple #[]) (w.setRow g (L.take d ++ zs ++ L.drop (d + zs.length)).toArray) := by
  have hst := run_storeCells_at P g d e zs 0 L.toArray w hg (by simpa using hfit) h1
  simp only [Nat.add_zero] at hst
  simp [Builtin.clear_, run_underlying ht, hz, hzs, hst]
theorem step_append_eq {P : Program} {ops : Array Oper} {o : Oper} {a : Act} {w : World} {K : Act → World → Prop} {Q : Exit → Act → World → Prop} {E : Prop} (hgd : o.guard = none) (s x : Operand) (t tn : TypeId)
    (ho : o.op = .call { callee := .builtin .append, args := #[s, x], argTypes := #[t, tn] }) (vs vx : Value) (hs : a.eval s = vs) (hx : a.eval x = vx) {v' : Value} {w' : World} (hr : (Builtin.append_ #[t, tn] o.type #[vs, vx]).run P w = .ok v' w') (h : K (a.put o.dst v') w') :
    if Region.wanted o (yielded ops a.tmps) = true then Oper.wp P o a w K Q else E := by
  have hw : Region.wanted o (yielded ops a.tmps) = true := by simp [Region.wanted, hgd]
  rw [if_pos hw]
  exact Lib.wp_append_run w s x t tn ho vs vx hs hx v' w' hr h
theorem wp_copy_eq {P : Program} (w : World) {o : Oper} {a : Act} {K : Act → World → Prop} {Q : Exit → Act → World → Prop} (d s : Operand) (t t' : TypeId)
    (ho : o.op = .call { callee := .builtin .copy, args := #[d, s], argTypes := #[t, t'] }) (v u : Value) (hd : a.eval d = v) (hs : a.eval s = u) {v' : Value} {w' : World}
    (hr : (Builtin.copy_ #[t, t'] o.type #[v, u]).run P w = .ok v' w') (h : K (a.put o.dst v') w') : o.wp P a w K Q := by
  unfold Oper.wp execOp
  simp only [ho, resolve, invoke, builtin, Sem.run_bind, Sem.run_pure, Result.andThen_ok, List.map_toArray, List.map_cons, List.map_nil, hd, hs, hr]
  exact h
theorem wpList_copy_eq {P : Program} (w : World) {ops : Array Oper} {rest : List Oper} {o : Oper} {a : Act} {Q : Exit → Act → World → Prop} (hgd : o.guard = none) (d s : Operand) (t t' : TypeId)
    (ho : o.op = .call { callee := .builtin .copy, args := #[d, s], argTypes := #[t, t'] }) (v u : Value) (hd : a.eval d = v) (hs : a.eval s = u) {v' : Value} {w' : World}
    (hr : (Builtin.copy_ #[t, t'] o.type #[v, u]).run P w = .ok v' w') (h : wpList P ops Q rest (a.put o.dst v') w') : wpList P ops Q (o :: rest) a w :=
  wpList_plain hgd fun _ hK => wp_copy_eq w d s t t' ho v u hd hs hr (hK _ _ h)
theorem step_copy_eq {P : Program} {ops : Array Oper} {o : Oper} {a : Act} {w : World} {K : Act → World → Prop} {Q : Exit → Act → World → Prop} {E : Prop} (hgd : o.guard = none) (d s : Operand) (t t' : TypeId)
    (ho : o.op = .call { callee := .builtin .copy, args := #[d, s], argTypes := #[t, t'] }) (v u : Value) (hd : a.eval d = v) (hs : a.eval s = u) {v' : Value} {w' : World} (hr : (Builtin.copy_ #[t, t'] o.type #[v, u]).run P w = .ok v' w') (h : K (a.put o.dst v') w') :
    if Region.wanted o (yielded ops a.tmps) = true then Oper.wp P o a w K Q else E := by
  have hw : Region.wanted o (yielded ops a.tmps) = true := by simp [Region.wanted, hgd]
  rw [if_pos hw]
  exact wp_copy_eq w d s t t' ho v u hd hs hr h
end Go.Proofs.YtjiaidchcldocaaGreatDoor
namespace Go.Proofs.YtjiaidchcldocaaGreatDoor
open Go.RowKit

theorem elemOk_file : ElemOk Tryz.prog 41 117 2 := elemOk_of Tryz.underlying41 (z := .agg #[.string ⟨#[]⟩, .slice none 0 0]) (b := 40) (by kernel_rfl) rfl (by decide)
theorem size_file (w : World) : (sizeOf (Tryz.prog.elem 41)).run Tryz.prog w = .ok 2 w := by kernel_rfl

set_option maxHeartbeats 1000000 in
set_option maxRecDepth 100000 in
theorem refDrop_any (t : List File) (k : Nat) (v : Value) (w : World) (h : Rdv w Never v t) (hk : k < t.length) (hl : t.length ≤ 1000000) :
    Calls Tryz.prog 62 #[v, .int .i64 k] w fun e w' => ∃ r, e = .returned r ∧ Chg Never w w' ∧ Rdv w' Never r (dropAt t k) := by
  obtain ⟨a, cap, rfl, h1, h2, _⟩ := rdv_slice h
  unfold maxLen at h2
  obtain ⟨sb1, u0, u1, hrunH, hsub1⟩ := slice_gen (P := Tryz.prog) (t := 41) (by kernel_rfl) size_file h 0 k (Nat.zero_le _) (by omega)
  have hrunH := fun (wx : World) => hrunH k wx rfl rfl
  clear u0 u1
  rw [Nat.sub_zero, Nat.sub_zero] at hrunH hsub1
  rw [List.drop_zero] at hsub1
  obtain ⟨sb2, u0, hrunL, u1, hsub2⟩ := slice_gen (P := Tryz.prog) (t := 41) (by kernel_rfl) size_file h (k + 1) t.length (by omega) (Nat.le_refl _)
  have hrunL := fun (wx : World) => hrunL ((k : Int) + 1) wx (by push_cast; rfl) rfl
  clear u0 u1
  rw [List.take_of_length_le (by rw [List.length_drop]; omega)] at hsub2
  have hn := ownN_nil (α := File) 117 (Chg.refl Never w)
  have hle1 : ([] : List File).length + (t.take k).length ≤ 1000000000 := by simp; omega
  have hle2 : ([] ++ t.take k).length + (t.drop (k + 1)).length ≤ 1000000000 := by simp; omega
  go_enter Tryz.func62, Tryz.ntmps62
  go_wp2_with (first
    | (at_builtin; refine wpList_many2 (by rfl) _ _ 41 (by rfl) elemOk_file (O := Never) (l := []) (m := t.take k) (by rfl) (by rfl) hn.own (hn.away hsub1) (fun _ h => h.elim) hle1 ?_; intro v1 w1 hw1 hd1 hk1; have hn1 := hn.step hw1 hd1 hk1; clear hw1 hd1 hk1 hn; obtain ⟨s1, n1, c1, rfl⟩ := own_isSlice hn1.own)
    | (at_builtin; refine wpList_many2 (by rfl) _ _ 41 (by rfl) elemOk_file (O := Never) (l := [] ++ t.take k) (m := t.drop (k + 1)) (by rfl) (by rfl) hn1.own (hn1.away hsub2) (fun _ h => h.elim) hle2 ?_; intro v2 w2 hw2 hd2 hk2; have hn2 := hn1.step hw2 hd2 hk2; clear hw2 hd2 hk2 hn1; obtain ⟨s2, n2, c2, rfl⟩ := own_isSlice hn2.own))
  go_ret
  exact ⟨_, rfl, hn2.chg, hn2.own.rdv.sub (fun _ _ h => h.elim)⟩

theorem putLoop_step (f x : File) (done : Bool) (r : List File) : putLoop f done (x :: r) = (if !done && leqB f.path x.path then [f] else []) ++ (if x.path = f.path then [] else [x]) ++ putLoop f (done || leqB f.path x.path) r := by rw [putLoop]
set_option maxHeartbeats 2000000 in
set_option maxRecDepth 100000 in
theorem refPut_any (t : List File) (f : File) (v fv : Value) (w : World) (h : Rdv w Never v t) (hf : Rdv w Never fv f.lines) (hp : f.path.size ≤ maxLen) (hl : t.length ≤ 1000000) :
    Calls Tryz.prog 61 #[v, .agg #[.string f.path, fv]] w fun e w' => ∃ r, e = .returned r ∧ Chg Never w w' ∧ Rdv w' Never r (putLoop f false t) := by
  obtain ⟨a, cap, rfl, h1, h2, _⟩ := rdv_slice h
  obtain ⟨fa, fcap, rfl, _, _, _⟩ := rdv_slice hf
  unfold maxLen at h2
  have hA : Chg Never w (w.alloc (.cells #[.string f.path, .slice fa f.lines.length fcap] 117)) := (Chg.refl Never w).alloc _
  have b0 : (w.alloc (.cells #[.string f.path, .slice fa f.lines.length fcap] 117)).cell? ⟨w.heap.size, 0, none⟩ = some (.string f.path) := by simp only [World.cell?]; rw [heap_alloc_new]; rfl
  have b1 : (w.alloc (.cells #[.string f.path, .slice fa f.lines.length fcap] 117)).cell? ⟨w.heap.size, 1, none⟩ = some (.slice fa f.lines.length fcap) := by simp only [World.cell?]; rw [heap_alloc_new]; rfl
  go_enter Tryz.func61, Tryz.ntmps61
  go_wp2_with fail
  generalize w.alloc (.cells #[.string f.path, .slice fa f.lines.length fcap] 117) = w1 at hA b0 b1 ⊢
  generalize w.heap.size = B at b0 b1 ⊢
  have h := h.never hA
  have hf := hf.never hA
  obtain ⟨_, _, hav, _, _, h3⟩ := rdv_slice h
  simp only [Value.slice.injEq, true_and] at hav
  obtain ⟨rfl, rfl⟩ := hav
  go_loopw [5, 6, 7] (fun o dn i wr => ∃ (k : Nat) (done : Bool) (L : List File), k ≤ t.length ∧ i = .int .i64 k ∧ dn = .bool done ∧ OwnN 117 w1 wr o L ∧ L.length ≤ 2 * k ∧ Hid (L ++ putLoop f done (t.drop k) = putLoop f false t)) (fun _ _ i _ => t.length - (intOf i).toNat)
  case atStart => exact ⟨0, false, [], Nat.zero_le _, rfl, rfl, ownN_nil _ (Chg.refl _ _), Nat.le_refl _, rfl⟩
  case round =>
    obtain ⟨k, done, L, hk, rfl, rfl, hn, hL, hP⟩ := hrel
    have q0 := hn.chg.cellNever b0
    have q1 := hn.chg.cellNever b1
    by_cases hlt : k < t.length
    · obtain ⟨x, hx⟩ : ∃ x, t[k]? = some x := ⟨t[k], by simp [hlt]⟩
      obtain ⟨b, off, lv, rfl, _, _, c0, c1, hps, hlv⟩ := elems_file h3 hx
      obtain ⟨la, lcap, rfl, _, _, _⟩ := rdv_slice hlv
      have C0 := Lib.hid c0
      have C1 := Lib.hid c1
      have c0 := hn.chg.cellNever c0
      have c1 := hn.chg.cellNever c1
      have HD := Lib.hid (drop_eq hx)
      clear hx
      cases done with
      | true =>
        by_cases e : x.path = f.path
        · have HN : Hid (L ++ putLoop f true (t.drop (k + 1)) = putLoop f false t) := by
            rw [Hid, ← hP.out, HD.out, putLoop_step]; simp [e]
          have t1 : (x.path.toList == f.path.toList) = true := by rw [e]; exact beq_self_eq_true _
          clear e hP
          go_wp2_with fail
          go_quiet (fail)
          generalize hwqw5 : World.drewN wr _ = w5
          have hn5 := hwqw5 ▸ hn.never ((Chg.refl Never wr).drewN _)
          clear hwqw5 hn
          clear c0 c1 q0 q1
          have c0 := (hn5).chg.cellNever C0.out
          have c1 := (hn5).chg.cellNever C1.out
          have q0 := (hn5).chg.cellNever b0
          have q1 := (hn5).chg.cellNever b1
          go_wp2_with fail
          go_quiet (fail)
          generalize hwqw7 : World.drewN w5 _ = w7
          have hn7 := hwqw7 ▸ hn5.never ((Chg.refl Never w5).drewN _)
          clear hwqw7 hn5
          clear c0 c1 q0 q1
          have c0 := (hn7).chg.cellNever C0.out
          have c1 := (hn7).chg.cellNever C1.out
          have q0 := (hn7).chg.cellNever b0
          have q1 := (hn7).chg.cellNever b1
          go_wp2_with fail
          go_roundw
          case rel => exact ⟨k + 1, true, L, by omega, by go_num, rfl, hn7, by first | omega | (simp; omega), HN⟩
          case measure => simp [intOf] <;> omega
        · have HN : Hid ((L ++ [x]) ++ putLoop f true (t.drop (k + 1)) = putLoop f false t) := by
            rw [Hid, ← hP.out, HD.out, putLoop_step]; simp [e]
          have t1 := str_beq_false e
          clear e hP
          go_wp2_with fail
          go_quiet (fail)
          generalize hwqw5 : World.drewN wr _ = w5
          have hn5 := hwqw5 ▸ hn.never ((Chg.refl Never wr).drewN _)
          clear hwqw5 hn
          clear c0 c1 q0 q1
          have c0 := (hn5).chg.cellNever C0.out
          have c1 := (hn5).chg.cellNever C1.out
          have q0 := (hn5).chg.cellNever b0
          have q1 := (hn5).chg.cellNever b1
          go_wp2_with fail
          go_quiet (fail)
          generalize hwqw7 : World.drewN w5 _ = w7
          have hn7 := hwqw7 ▸ hn5.never ((Chg.refl Never w5).drewN _)
          clear hwqw7 hn5
          clear c0 c1 q0 q1
          have c0 := (hn7).chg.cellNever C0.out
          have c1 := (hn7).chg.cellNever C1.out
          have q0 := (hn7).chg.cellNever b0
          have q1 := (hn7).chg.cellNever b1
          have hyw8 : Dat.rd _ (fun k => Never k ∨ _ = some k) _ x := ⟨_, rfl, hps, hn7.away hlv⟩
          go_wp2_with (at_builtin; refine wpList_push (by rfl) _ _ 41 (by rfl) elemOk_file (O := Never) (l := L) (y := x) (by rfl) (by rfl) (by rfl) hn7.own hyw8 (fun _ h => h.elim) (by first | omega | (simp; omega)) ?_; intro vw8 w8 hown2 hc2 hk2; have hn8 := hn7.step1 hown2 hc2 hk2; clear hown2 hc2 hk2 hn7 hyw8; obtain ⟨vaw8, vnw8, vcw8, rfl⟩ := own_isSlice hn8.own)
          clear c0 c1 q0 q1
          have c0 := (hn8).chg.cellNever C0.out
          have c1 := (hn8).chg.cellNever C1.out
          have q0 := (hn8).chg.cellNever b0
          have q1 := (hn8).chg.cellNever b1
          go_wp2_with fail
          go_roundw
          case rel => exact ⟨k + 1, true, L ++ [x], by omega, by go_num, rfl, hn8, by first | omega | (simp; omega), HN⟩
          case measure => simp [intOf] <;> omega
      | false =>
        rcases less_tri x.path f.path with g | g | g
        · have HN : Hid ((L ++ [x]) ++ putLoop f false (t.drop (k + 1)) = putLoop f false t) := by
            have e1 : leqB f.path x.path = false := by
              rw [Bool.eq_false_iff]; intro e
              rw [leqB_true.1 e] at g; cases g
            rw [Hid, ← hP.out, HD.out, putLoop_step, e1]; simp [less_ne g]
          have a1 : Op.bytesLess f.path.toList x.path.toList = false := less_asymm g
          have a2 := str_beq_false (less_ne g).symm
          have t1 := str_beq_false (less_ne g)
          clear g hP
          go_wp2_with fail
          go_quiet (fail)
          generalize hwqw5 : World.drewN wr _ = w5
          have hn5 := hwqw5 ▸ hn.never ((Chg.refl Never wr).drewN _)
          clear hwqw5 hn
          clear c0 c1 q0 q1
          have c0 := (hn5).chg.cellNever C0.out
          have c1 := (hn5).chg.cellNever C1.out
          have q0 := (hn5).chg.cellNever b0
          have q1 := (hn5).chg.cellNever b1
          go_wp2_with fail
          go_quiet (fail)
          generalize hwqw7 : World.drewN w5 _ = w7
          have hn7 := hwqw7 ▸ hn5.never ((Chg.refl Never w5).drewN _)
          clear hwqw7 hn5
          clear c0 c1 q0 q1
          have c0 := (hn7).chg.cellNever C0.out
          have c1 := (hn7).chg.cellNever C1.out
          have q0 := (hn7).chg.cellNever b0
          have q1 := (hn7).chg.cellNever b1
          have hyw8 : Dat.rd _ (fun k => Never k ∨ _ = some k) _ x := ⟨_, rfl, hps, hn7.away hlv⟩
          go_wp2_with (at_builtin; refine wpList_push (by rfl) _ _ 41 (by rfl) elemOk_file (O := Never) (l := L) (y := x) (by rfl) (by rfl) (by rfl) hn7.own hyw8 (fun _ h => h.elim) (by first | omega | (simp; omega)) ?_; intro vw8 w8 hown2 hc2 hk2; have hn8 := hn7.step1 hown2 hc2 hk2; clear hown2 hc2 hk2 hn7 hyw8; obtain ⟨vaw8, vnw8, vcw8, rfl⟩ := own_isSlice hn8.own)
          clear c0 c1 q0 q1
          have c0 := (hn8).chg.cellNever C0.out
          have c1 := (hn8).chg.cellNever C1.out
          have q0 := (hn8).chg.cellNever b0
          have q1 := (hn8).chg.cellNever b1
          go_wp2_with fail
          go_roundw
          case rel => exact ⟨k + 1, false, L ++ [x], by omega, by go_num, rfl, hn8, by first | omega | (simp; omega), HN⟩
          case measure => simp [intOf] <;> omega
        · have HN : Hid ((L ++ [f]) ++ putLoop f true (t.drop (k + 1)) = putLoop f false t) := by
            have e1 : leqB f.path x.path = true := leqB_true.2 (by rw [g]; exact less_irrefl _)
            rw [Hid, ← hP.out, HD.out, putLoop_step, e1]; simp [g]
          have a1 : Op.bytesLess f.path.toList x.path.toList = false := by rw [g]; exact bl_irrefl _
          have a2 : (f.path.toList == x.path.toList) = true := by rw [g]; exact beq_self_eq_true _
          have t1 : (x.path.toList == f.path.toList) = true := by rw [g]; exact beq_self_eq_true _
          clear g hP
          go_wp2_with fail
          go_quiet (fail)
          generalize hwqw5 : World.drewN wr _ = w5
          have hn5 := hwqw5 ▸ hn.never ((Chg.refl Never wr).drewN _)
          clear hwqw5 hn
          clear c0 c1 q0 q1
          have c0 := (hn5).chg.cellNever C0.out
          have c1 := (hn5).chg.cellNever C1.out
          have q0 := (hn5).chg.cellNever b0
          have q1 := (hn5).chg.cellNever b1
          have hyw6 : Dat.rd _ (fun k => Never k ∨ _ = some k) _ f := ⟨_, rfl, hp, hn5.away hf⟩
          go_wp2_with (at_builtin; refine wpList_push (by rfl) _ _ 41 (by rfl) elemOk_file (O := Never) (l := L) (y := f) (by rfl) (by rfl) (by rfl) hn5.own hyw6 (fun _ h => h.elim) (by first | omega | (simp; omega)) ?_; intro vw6 w6 hown2 hc2 hk2; have hn6 := hn5.step1 hown2 hc2 hk2; clear hown2 hc2 hk2 hn5 hyw6; obtain ⟨vaw6, vnw6, vcw6, rfl⟩ := own_isSlice hn6.own)
          clear c0 c1 q0 q1
          have c0 := (hn6).chg.cellNever C0.out
          have c1 := (hn6).chg.cellNever C1.out
          have q0 := (hn6).chg.cellNever b0
          have q1 := (hn6).chg.cellNever b1
          go_wp2_with fail
          go_quiet (fail)
          generalize hwqw7 : World.drewN w6 _ = w7
          have hn7 := hwqw7 ▸ hn6.never ((Chg.refl Never w6).drewN _)
          clear hwqw7 hn6
          clear c0 c1 q0 q1
          have c0 := (hn7).chg.cellNever C0.out
          have c1 := (hn7).chg.cellNever C1.out
          have q0 := (hn7).chg.cellNever b0
          have q1 := (hn7).chg.cellNever b1
          go_wp2_with fail
          go_roundw
          case rel => exact ⟨k + 1, true, L ++ [f], by omega, by go_num, rfl, hn7, by first | omega | (simp; omega), HN⟩
          case measure => simp [intOf] <;> omega
        · have HN : Hid ((L ++ [f] ++ [x]) ++ putLoop f true (t.drop (k + 1)) = putLoop f false t) := by
            have e1 : leqB f.path x.path = true := leqB_true.2 (less_asymm g)
            rw [Hid, ← hP.out, HD.out, putLoop_step, e1]; simp [(less_ne g).symm]
          have a1 : Op.bytesLess f.path.toList x.path.toList = true := g
          have t1 := str_beq_false (less_ne g).symm
          clear g hP
          go_wp2_with fail
          go_quiet (fail)
          generalize hwqw5 : World.drewN wr _ = w5
          have hn5 := hwqw5 ▸ hn.never ((Chg.refl Never wr).drewN _)
          clear hwqw5 hn
          clear c0 c1 q0 q1
          have c0 := (hn5).chg.cellNever C0.out
          have c1 := (hn5).chg.cellNever C1.out
          have q0 := (hn5).chg.cellNever b0
          have q1 := (hn5).chg.cellNever b1
          have hyw6 : Dat.rd _ (fun k => Never k ∨ _ = some k) _ f := ⟨_, rfl, hp, hn5.away hf⟩
          go_wp2_with (at_builtin; refine wpList_push (by rfl) _ _ 41 (by rfl) elemOk_file (O := Never) (l := L) (y := f) (by rfl) (by rfl) (by rfl) hn5.own hyw6 (fun _ h => h.elim) (by first | omega | (simp; omega)) ?_; intro vw6 w6 hown2 hc2 hk2; have hn6 := hn5.step1 hown2 hc2 hk2; clear hown2 hc2 hk2 hn5 hyw6; obtain ⟨vaw6, vnw6, vcw6, rfl⟩ := own_isSlice hn6.own)
          clear c0 c1 q0 q1
          have c0 := (hn6).chg.cellNever C0.out
          have c1 := (hn6).chg.cellNever C1.out
          have q0 := (hn6).chg.cellNever b0
          have q1 := (hn6).chg.cellNever b1
          go_wp2_with fail
          go_quiet (fail)
          generalize hwqw7 : World.drewN w6 _ = w7
          have hn7 := hwqw7 ▸ hn6.never ((Chg.refl Never w6).drewN _)
          clear hwqw7 hn6
          clear c0 c1 q0 q1
          have c0 := (hn7).chg.cellNever C0.out
          have c1 := (hn7).chg.cellNever C1.out
          have q0 := (hn7).chg.cellNever b0
          have q1 := (hn7).chg.cellNever b1
          have hyw8 : Dat.rd _ (fun k => Never k ∨ _ = some k) _ x := ⟨_, rfl, hps, hn7.away hlv⟩
          go_wp2_with (at_builtin; refine wpList_push (by rfl) _ _ 41 (by rfl) elemOk_file (O := Never) (l := L ++ [f]) (y := x) (by rfl) (by rfl) (by rfl) hn7.own hyw8 (fun _ h => h.elim) (by first | omega | (simp; omega)) ?_; intro vw8 w8 hown2 hc2 hk2; have hn8 := hn7.step1 hown2 hc2 hk2; clear hown2 hc2 hk2 hn7 hyw8; obtain ⟨vaw8, vnw8, vcw8, rfl⟩ := own_isSlice hn8.own)
          clear c0 c1 q0 q1
          have c0 := (hn8).chg.cellNever C0.out
          have c1 := (hn8).chg.cellNever C1.out
          have q0 := (hn8).chg.cellNever b0
          have q1 := (hn8).chg.cellNever b1
          go_wp2_with fail
          go_roundw
          case rel => exact ⟨k + 1, true, L ++ [f] ++ [x], by omega, by go_num, rfl, hn8, by first | omega | (simp; omega), HN⟩
          case measure => simp [intOf] <;> omega
    · have hP2 := hP.out
      rw [List.drop_eq_nil_of_le (by omega), putLoop] at hP2
      have HP := Lib.hid hP2
      clear hP hP2
      cases done with
      | true =>
        have HE : Hid (L = putLoop f false t) := by rw [Hid, ← HP.out]; simp
        go_wp2_with fail
        go_ret
        exact ⟨_, rfl, hA.trans hn.chg, by rw [← HE.out]; exact hn.own.rdv.sub (fun _ _ h => h.elim)⟩
      | false =>
        have HE : Hid (L ++ [f] = putLoop f false t) := by rw [Hid, ← HP.out]; simp
        have hyf : Dat.rd wr (fun k => Never k ∨ u5.ownBlock = some k) [.string f.path, .slice fa f.lines.length fcap] f := ⟨_, rfl, hp, hn.away hf⟩
        go_wp2_with (at_builtin; refine wpList_push (by rfl) _ _ 41 (by rfl) elemOk_file (O := Never) (l := L) (y := f) (by rfl) (by rfl) (by rfl) hn.own hyf (fun _ h => h.elim) (by omega) ?_; intro v' w2 hown2 hc2 hk2; have hn2 := hn.step1 hown2 hc2 hk2; clear hown2 hc2 hk2 hn hyf; obtain ⟨va, vn, vc, rfl⟩ := own_isSlice hn2.own)
        go_wp2_with fail
        go_ret
        exact ⟨_, rfl, hA.trans hn2.chg, by rw [← HE.out]; exact hn2.own.rdv.sub (fun _ _ h => h.elim)⟩
end Go.Proofs.YtjiaidchcldocaaGreatDoor
namespace Go.Proofs.YtjiaidchcldocaaGreatDoor
open Go.RowKit

theorem info_file : ∃ i, Tryz.prog.info? 117 = some i ∧ i.size = 2 ∧ i.zero = some (.agg #[.string ⟨#[]⟩, .slice none 0 0]) ∧ i.bytes ≤ 128 := by
  obtain ⟨i, h1, h2, h3, h4⟩ := info_parts (P := Tryz.prog) (e := 117) (z := .agg #[.string ⟨#[]⟩, .slice none 0 0]) (size := 2) (bytes := 40) (by kernel_rfl)
  exact ⟨i, h1, h3, h2, by omega⟩
theorem zero_file : (Builtin.zeroCells (Value.agg #[.string ⟨#[]⟩, .slice none 0 0]).cells 1).toList = [.string ⟨#[]⟩, .slice none 0 0] := by
  simp [Builtin.zeroCells, Value.cells, Array.range, Array.ofFn]
  try rfl
theorem take_two {a b : List Value} {k : Nat} (h : a.length = k) : (a ++ b).take k = a := by subst h; exact List.take_left
theorem drop_two {a b : List Value} {k : Nat} (h : a.length = k) : (a ++ b).drop k = b := by subst h; exact List.drop_left
set_option maxHeartbeats 2000000 in
set_option maxRecDepth 100000 in
theorem delete_any (T : List File) (i : Nat) (v : Value) (w0 w : World) (hn : OwnN 117 w0 w v T) (hi : i < T.length) (hT : T.length ≤ 1000000) :
    Calls Tryz.prog 78 #[v, .int .i64 i, .int .i64 ((i : Int) + 1)] w fun e w' => ∃ r, e = .returned r ∧ OwnN 117 w0 w' r (dropAt T i) ∧ Chg (OwnB v) w w' ∧ (∀ k, r.ownBlock = some k → v.ownBlock = some k) := by
  obtain ⟨g, cap, r, tail, rfl, hg, hsz, hle, hcm, _, hr⟩ := own_rows hn.own (by omega)
  obtain ⟨hrl, hrq⟩ := hr.len
  have hrq : ∀ c ∈ r, c.length = 2 := hrq
  have hsz : (r.flatten ++ tail).length = cap * 2 := hsz
  obtain ⟨inf, hinf, hi2, _, _⟩ := info_file
  have hfl : r.flatten.length = T.length * 2 := by rw [cells_len hrq, hrl]
  have hnew : w0.heap.size ≤ g := hn.new g rfl
  have hgl : g < w.heap.size := (Array.getElem?_eq_some_iff.1 hg).1
  have hRow := Lib.hid hr
  unfold maxLen at hcm
  -- what moves to the left
  have hm1 : ((r.drop (i + 1)).flatten).length = (T.length - (i + 1)) * 2 := by rw [cells_len (fun c hc => hrq c (List.mem_of_mem_drop hc)), List.length_drop, hrl]
  obtain ⟨A, hA, hsrc⟩ : ∃ A : Addr, (if cap = i + 1 then some (⟨g, 0, none⟩ : Addr) else some ⟨g, (i + 1) * 2, none⟩) = some A ∧ Hid (∀ j u, ((r.drop (i + 1)).flatten)[j]? = some u → w.drew.cell? (A.add j) = some u) := by
    by_cases h : cap = i + 1
    · refine ⟨⟨g, 0, none⟩, by rw [if_pos h], fun j u hu => ?_⟩
      have h0 : (r.drop (i + 1)).flatten = [] := List.eq_nil_of_length_eq_zero (by rw [hm1]; omega)
      rw [h0] at hu
      simp at hu
    · refine ⟨⟨g, (i + 1) * 2, none⟩, by rw [if_neg h], fun j u hu => ?_⟩
      rw [Addr.add_lit]
      refine row_cell (w := w.drew) hg ?_
      rw [← cells_drop r (i + 1) hrq, List.getElem?_drop] at hu
      rw [List.getElem?_append_left (List.getElem?_eq_some_iff.1 hu).1]
      exact hu
  have hone : ∀ u ∈ (r.drop (i + 1)).flatten, u.oneCell' = true := fun u hu => by
    obtain ⟨c, hc, hu⟩ := List.mem_flatten.1 hu
    exact hr.one c (List.mem_of_mem_drop hc) u hu
  have hrun1 : ∀ ty, (Builtin.append_ #[41, 41] ty #[.slice (some ⟨g, 0, none⟩) i cap, .slice (some A) (T.length - (i + 1)) (cap - (i + 1))]).run Tryz.prog w.drew = _ := fun ty =>
    run_append_room (P := Tryz.prog) (ty := ty) w.drew 41 117 inf Tryz.underlying41 hinf g i cap (r.flatten ++ tail).toArray hg A (T.length - (i + 1)) (cap - (i + 1)) ((r.drop (i + 1)).flatten) (by rw [hm1, hi2]) hsrc.out hone (by omega) (by rw [hi2, hm1]; simp only [List.size_toArray]; omega)
  have hE1 : (r.flatten ++ tail).take (i * 2) = (r.take i).flatten := by
    rw [← cells_take r i hrq, List.take_append_of_le_length (by rw [hfl]; omega)]
  rw [hi2] at hrun1
  simp only [List.toList_toArray, hE1] at hrun1
  have hi1 : i + (T.length - (i + 1)) = T.length - 1 := by omega
  rw [hi1] at hrun1
  have hm2 : ((r.take i).flatten ++ (r.drop (i + 1)).flatten).length = (T.length - 1) * 2 := by
    rw [List.length_append, hm1, cells_len (fun c hc => hrq c (List.mem_of_mem_take hc)), List.length_take, hrl]; omega
  have hm3 : ((r.flatten ++ tail).drop (i * 2 + ((r.drop (i + 1)).flatten).length)).length = (cap - (T.length - 1)) * 2 := by
    rw [List.length_drop, hsz, hm1]; omega
  generalize (r.flatten ++ tail).drop (i * 2 + ((r.drop (i + 1)).flatten).length) = rest at hrun1 hm3
  have hg1 : (w.drew.setRow g ((r.take i).flatten ++ (r.drop (i + 1)).flatten ++ rest).toArray).heap[g]? = some (.cells ((r.take i).flatten ++ (r.drop (i + 1)).flatten ++ rest).toArray 117 (0, 0)) := setRow_heap w.drew g _ _ _ _ hg
  have hc1 := chg_setRow w.drew g ((r.take i).flatten ++ (r.drop (i + 1)).flatten ++ rest).toArray
  generalize w.drew.setRow g ((r.take i).flatten ++ (r.drop (i + 1)).flatten ++ rest).toArray = W1 at hrun1 hg1 hc1
  have hzv : ∀ w, (zeroValue 117).run Tryz.prog w = .ok (.agg #[.string ⟨#[]⟩, .slice none 0 0]) w := fun w => by kernel_rfl
  have hcl : ∀ ty c, (Builtin.clear_ #[41] ty #[.slice (some ⟨g, (T.length - 1) * 2, none⟩) 1 c]).run Tryz.prog W1 = _ := fun ty c =>
    run_clear_at (P := Tryz.prog) (ty := ty) (c := c) W1 Tryz.underlying41 hzv (zs := [.string ⟨#[]⟩, .slice none 0 0]) zero_file hg1 (by rw [List.length_append, hm2, hm3]; simp; omega) (by simp [Value.oneCell'])
  rw [take_two hm2] at hcl
  generalize hrest : List.drop ((T.length - 1) * 2 + [Value.string ⟨#[]⟩, Value.slice none 0 0].length) ((r.take i).flatten ++ (r.drop (i + 1)).flatten ++ rest) = rest2 at hcl
  have hm4 : rest2.length = (cap - T.length) * 2 := by
    rw [← hrest, List.length_drop, List.length_append, hm2, hm3]; simp; omega
  have hg2 : (W1.setRow g ((r.take i).flatten ++ (r.drop (i + 1)).flatten ++ [Value.string ⟨#[]⟩, Value.slice none 0 0] ++ rest2).toArray).heap[g]? = some (.cells ((r.take i).flatten ++ (r.drop (i + 1)).flatten ++ [Value.string ⟨#[]⟩, Value.slice none 0 0] ++ rest2).toArray 117 (0, 0)) := setRow_heap W1 g _ _ _ _ hg1
  have hc2 := chg_setRow W1 g ((r.take i).flatten ++ (r.drop (i + 1)).flatten ++ [Value.string ⟨#[]⟩, Value.slice none 0 0] ++ rest2).toArray
  generalize W1.setRow g ((r.take i).flatten ++ (r.drop (i + 1)).flatten ++ [Value.string ⟨#[]⟩, Value.slice none 0 0] ++ rest2).toArray = W2 at hcl hg2 hc2
  have hcc : Chg (fun k => k = g) w W2 := ((Chg.refl (fun k => k = g) w).drew.trans hc1).trans hc2
  have hfin : Hid (OwnN 117 w0 W2 (.slice (some ⟨g, 0, none⟩) (T.length - 1) cap) (dropAt T i) ∧ Chg (OwnB (.slice (some ⟨g, 0, none⟩) T.length cap)) w W2 ∧ (∀ k, (Value.slice (some ⟨g, 0, none⟩) (T.length - 1) cap).ownBlock = some k → (Value.slice (some ⟨g, 0, none⟩) T.length cap).ownBlock = some k)) := by
    have hdl : (dropAt T i).length = T.length - 1 := by unfold dropAt; rw [List.length_append, List.length_take, List.length_drop]; omega
    have hrr := ((hRow.out.take i).app (hRow.out.drop (i + 1))).keep (O'' := fun k => Never k ∨ k = g) hcc (fun k _ hk => .inr hk) (fun k _ hk => hk)
    have := own_laid (e := 117) (w := W2) (O := Never) (l := dropAt T i) (g := g) (cap := cap) (r := r.take i ++ r.drop (i + 1)) (tail := [Value.string ⟨#[]⟩, Value.slice none 0 0] ++ rest2) (by rw [List.flatten_append, ← List.append_assoc]; exact hg2)
      (by rw [List.flatten_append, List.length_append, hm2, List.length_append, hm4]; show _ = cap * 2; simp; omega) (by omega) (by unfold maxLen; omega) (fun h => h) hrr
    rw [hdl] at this
    exact ⟨⟨this, fun k hk => by injection hk with hk; subst hk; exact hnew, hn.chg.trans' hcc (fun k hk h => by omega)⟩, hcc.mono (fun k _ h => by rw [h]; rfl), fun k h => h⟩
  clear hg hsz hr hrq hfl hsrc hone hm1 hm2 hm3 hm4 hE1 hg1 hg2 hc1 hc2 hcc hrest hRow hinf hzv hn hrl
  have h1 : ((i : Int) == (i : Int) + 1) = false := beq_eq_false_iff_ne.2 (by omega)
  have h2 : (T.length - 1 : Nat) + 1 = T.length := by omega
  have h3 : T.length - (T.length - 1) = 1 := by omega
  have h4 : ¬ cap = T.length - 1 := by omega
  have h5 : ((i : Int) + 1).toNat = i + 1 := by omega
  have h6 : i ≤ cap := by omega
  have h7 : i + 1 ≤ cap := by omega
  have h8 : (i : Int) + 1 ≤ T.length := by omega
  have h9 : (0 : Int) ≤ (i : Int) + 1 := by omega
  go_enter Tryz.func78, Tryz.ntmps78
  go_wp2_with fail
  refine wp_region_held_drew (S := fun _ => True) (by kernel_rfl) trivial (fun hH => ?_)
  refine' tk 0 ?_
  refine' tk 1 ?_
  refine' tk 2 ?_
  refine' tk 3 ?_
  refine' tk 4 ?_
  refine' tk 5 ?_
  refine wpAnyH_ready (rs := [6]) (by kernel_rfl) (by simp) ?_
  refine AllReadyH.cons rfl (fun K hK => ?_) AllReadyH.nil
  refine step_append_eq (by rfl) _ _ 41 41 (by rfl) _ _ (by rfl) (by rfl) (hrun1 _) ?_
  refine hK.out _ _ trivial (fun _ => ?_)
  clear hK K
  try simp only [Act.put, List.setIfInBounds_toArray, List.set_cons_zero, List.set_cons_succ]
  refine' tk 7 ?_
  refine wpAnyH_done (by kernel_rfl) ?_ _
  go_wp2_with fail
  go_ret
  exact ⟨_, rfl, hfin.out⟩
end Go.Proofs.YtjiaidchcldocaaGreatDoor
