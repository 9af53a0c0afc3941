/-
  PARTS: THE WALKS of patch.whole, shape, one, Check.
-/
import Derived.Test.YtjiaidchcldocaaGreatDoorPg14
import Derived.Test.YtjiaidchcldocaaGreatDoorPg6
import Derived.Test.YtjiaidchcldocaaGreatDoorPg5
set_option linter.unusedVariables false
set_option linter.unusedSimpArgs false
namespace Go.Proofs.YtjiaidchcldocaaGreatDoor
open Go.RowKit

theorem other_any (sg s : Int) (tx : ByteArray) (p : Addr) (w : World) (h : w.cell? p = some (.int .u8 s)) :
    Calls Tryz.prog 224 #[.agg #[.int .u8 sg, .string tx], .pointer (some p)] w fun e w' => e = .returned (.bool (sg != s)) ∧ Chg Never w w' := by
  have h := ((Chg.refl Never w).alloc (.cells #[.int .u8 sg, .string tx] 126)).cellNever h
  go_enter Tryz.func224, Tryz.ntmps224
  go_wp2_with fail
  go_ret
  exact ⟨rfl, (Chg.refl _ _).alloc _⟩
def allSign (l : List Mark) (s : Int) : Bool := l.all fun m => decide (m.sign = s)
theorem allSign_take {l : List Mark} {k : Nat} {x : Mark} {s : Int} (hx : l[k]? = some x) (h : allSign (l.take k) s = true) : allSign (l.take (k + 1)) s = decide (x.sign = s) := by
  rw [List.take_add_one, hx]
  unfold allSign at *
  rw [List.all_append, h]
  simp
theorem allSign_bad {l : List Mark} {k : Nat} {x : Mark} {s : Int} (hx : l[k]? = some x) (h : x.sign ≠ s) : allSign l s = false := by
  unfold allSign
  rw [List.all_eq_false]
  exact ⟨x, List.mem_of_getElem? hx, by simp [h]⟩
def OthPost (l : List Mark) (s : Int) (w : World) (e : Ending) (w' : World) : Prop := ∃ n : Int, e = .returned (.int .i64 n) ∧ -1 ≤ n ∧ decide (0 ≤ n) = !(allSign l s) ∧ Chg Never w w'
set_option maxHeartbeats 1000000 in
set_option maxRecDepth 100000 in
theorem index_other (l : List Mark) (s : Int) (v : Value) (p : Addr) (w : World) (h : Rdv w Never v l) (hp : w.cell? p = some (.int .u8 s)) :
    Calls Tryz.prog 211 #[v, .func (.func 224) #[] #[.pointer (some p)]] w (OthPost l s w) := by
  obtain ⟨a, cap, rfl, h1, h2, h3⟩ := rdv_slice h
  unfold maxLen at h2
  go_enter Tryz.func211, Tryz.ntmps211
  go_wp2_with fail
  go_loopw [8] (fun i wr => ∃ k : Nat, k ≤ l.length ∧ i = .int .i64 k ∧ Hid (allSign (l.take k) s = true) ∧ Chg Never w wr) (fun i _ => l.length - (intOf i).toNat)
  case atStart => exact ⟨0, Nat.zero_le _, rfl, rfl, Chg.refl _ _⟩
  case round =>
    obtain ⟨k, hk, rfl, hf, hc⟩ := hrel
    by_cases hlt : k < l.length
    · obtain ⟨x, hx⟩ : ∃ x, l[k]? = some x := ⟨l[k], by simp [hlt]⟩
      obtain ⟨b, off, rfl, _, _, c0, c1, s0, s1, hxs⟩ := elems_mark h3 hx
      have c0 := hc.cellNever c0
      have c1 := hc.cellNever c1
      have HT := Lib.hid (allSign_take hx hf.out)
      have HB : ∀ _ : x.sign ≠ s, Hid (allSign l s = false) := fun e => allSign_bad hx e
      clear hx h3 h
      obtain ⟨sg, tx⟩ := x
      simp only at c0 c1 s0 s1 hxs HB HT
      by_cases h32 : sg = s
      · have t1 : (sg != s) = false := by simp [h32]
        go_wp2_with (go_at_call 224; refine (other_any _ s _ _ _ (hc.cellNever hp)).mono ?_; rintro e w2 ⟨rfl, hc2⟩)
        go_roundw
        case rel => exact ⟨k + 1, by omega, by go_num, by rw [Hid, HT.out]; exact decide_eq_true h32, hc.trans hc2⟩
        case measure => simp [intOf] <;> omega
      · have t1 : (sg != s) = true := by simp [h32]
        have E := HB h32
        clear HB HT
        go_wp2_with (go_at_call 224; refine (other_any _ s _ _ _ (hc.cellNever hp)).mono ?_; rintro e w2 ⟨rfl, hc2⟩)
        go_ret
        exact ⟨k, rfl, by omega, by rw [E.out]; simp, hc.trans hc2⟩
    · go_wp2_with fail
      go_ret
      have E : allSign l s = true := by have := hf.out; rwa [List.take_of_length_le (by omega)] at this
      exact ⟨-1, rfl, by omega, by rw [E]; rfl, hc⟩
theorem contains_other (l : List Mark) (s : Int) (v : Value) (p : Addr) (w : World) (h : Rdv w Never v l) (hp : w.cell? p = some (.int .u8 s)) :
    Calls Tryz.prog 181 #[v, .func (.func 224) #[] #[.pointer (some p)]] w fun e w' => e = .returned (.bool (!(allSign l s))) ∧ Chg Never w w' := by
  go_enter Tryz.func181, Tryz.ntmps181
  go_wp2_with fail
  refine (index_other l s _ _ _ h hp).mono ?_
  rintro e w1 ⟨n, rfl, hn, hd, hc⟩
  have HD := Lib.hid hd
  clear hd
  go_wp2_with fail
  go_ret
  exact ⟨by rw [← HD.out]; rfl, hc⟩

/-- a change and a sign in boxes -/
theorem box_change (w : World) (T U : TypeId) (k s : Int) (p : ByteArray) (v : Value) (W : World) (hW : W = (w.alloc (.cells #[.int .i64 k, .string p, v] T)).alloc (.cells #[.int .u8 s] U)) :
    Chg Never w W ∧ W.cell? ⟨w.heap.size, 0, none⟩ = some (.int .i64 k) ∧ W.cell? ⟨w.heap.size, 1, none⟩ = some (.string p) ∧ W.cell? ⟨w.heap.size, 2, none⟩ = some v ∧ W.cell? ⟨w.heap.size + 1, 0, none⟩ = some (.int .u8 s) := by
  subst hW
  have hA : Chg Never w (w.alloc (.cells #[.int .i64 k, .string p, v] T)) := (Chg.refl Never w).alloc _
  have hB := (Chg.refl Never (w.alloc (.cells #[.int .i64 k, .string p, v] T))).alloc (.cells #[.int .u8 s] U)
  have n := heap_alloc_new w (.cells #[.int .i64 k, .string p, v] T)
  have n2 := heap_alloc_new (w.alloc (.cells #[.int .i64 k, .string p, v] T)) (.cells #[.int .u8 s] U)
  rw [World.size_alloc] at n2
  refine ⟨hA.trans hB, hB.cellNever ?_, hB.cellNever ?_, hB.cellNever ?_, ?_⟩
  · simp only [World.cell?]; rw [n]; rfl
  · simp only [World.cell?]; rw [n]; rfl
  · simp only [World.cell?]; rw [n]; rfl
  · simp only [World.cell?]; rw [n2]; rfl
theorem box1_change (w : World) (T : TypeId) (k : Int) (p : ByteArray) (v : Value) (W : World) (hW : W = w.alloc (.cells #[.int .i64 k, .string p, v] T)) :
    Chg Never w W ∧ W.cell? ⟨w.heap.size, 0, none⟩ = some (.int .i64 k) ∧ W.cell? ⟨w.heap.size, 1, none⟩ = some (.string p) ∧ W.cell? ⟨w.heap.size, 2, none⟩ = some v := by
  subst hW
  have n := heap_alloc_new w (.cells #[.int .i64 k, .string p, v] T)
  refine ⟨(Chg.refl Never w).alloc _, ?_, ?_, ?_⟩ <;> (simp only [World.cell?]; rw [n]; rfl)
theorem wholeB_one (h : Hunk) (s : Int) : wholeB [h] s = (decide (h.old = 0) && decide (h.new = 0) && allSign h.marks s) := rfl
theorem wholeB_many {l : List Hunk} {s : Int} (h : 2 ≤ l.length) : wholeB l s = false := by
  match l, h with
  | _ :: _ :: _, _ => rfl
set_option maxHeartbeats 2000000 in
set_option maxRecDepth 100000 in
theorem whole_go (wh : Int) (pa : ByteArray) (hs : List Hunk) (s : Int) (v : Value) (w : World) (h : Rdv w Never v hs) :
    Calls Tryz.prog 201 #[.agg #[.int .i64 wh, .string pa, v], .int .u8 s] w fun e w' => e = .returned (.bool (wholeB hs s)) ∧ Chg Never w w' := by
  obtain ⟨a, cap, rfl, h1, h2, h3⟩ := rdv_slice h
  obtain ⟨hA, b0, b1, b2, bs⟩ := box_change w 85 5 wh s pa (.slice a hs.length cap) _ rfl
  match hs, h, h1, h2, h3, hA, b0, b1, b2, bs with
  | [], h, h1, h2, h3, hA, b0, b1, b2, bs =>
    have e0 : wholeB [] s = true := rfl
    rw [e0]
    go_enter Tryz.func201, Tryz.ntmps201
    go_wp2_with fail
    go_ret
    exact ⟨rfl, hA⟩
  | [x], h, h1, h2, h3, hA, b0, b1, b2, bs =>
    obtain ⟨b, off, mv, rfl, _, _, c0, c1, c2, hmv⟩ := elems_hunk h3 (i := 0) rfl
    simp only [Nat.zero_mul, Nat.add_zero] at c0 c1 c2
    have c0 := hA.cellNever c0
    have c1 := hA.cellNever c1
    have c2 := hA.cellNever c2
    have hmv := hmv.never hA
    rw [wholeB_one]
    clear h3
    by_cases o : x.old = 0
    · by_cases n : x.new = 0
      · rw [decide_eq_true o, decide_eq_true n]
        have o0 : (x.old == 0) = true := by simp [o]
        have n0 : (x.new == 0) = true := by simp [n]
        clear o n
        go_enter Tryz.func201, Tryz.ntmps201
        go_wp2_with fail
        refine (contains_other x.marks s _ _ _ hmv bs).mono ?_
        rintro e w2 ⟨rfl, hc2⟩
        go_wp2_with fail
        go_ret
        exact ⟨by simp, hA.trans hc2⟩
      · rw [decide_eq_true o, decide_eq_false n]
        have o0 : (x.old == 0) = true := by simp [o]
        have n0 : (x.new == 0) = false := by simp [n]
        clear o n
        go_enter Tryz.func201, Tryz.ntmps201
        go_wp2_with fail
        go_ret
        exact ⟨rfl, hA⟩
    · rw [decide_eq_false o]
      have o0 : (x.old == 0) = false := by simp [o]
      clear o
      go_enter Tryz.func201, Tryz.ntmps201
      go_wp2_with fail
      go_ret
      exact ⟨rfl, hA⟩
  | x :: y :: r, h, h1, h2, h3, hA, b0, b1, b2, bs =>
    rw [wholeB_many (by simp)]
    generalize hL : x :: y :: r = L at b0 b1 b2 bs h h1 h2 hA ⊢
    have hge : 2 ≤ L.length := by rw [← hL]; simp
    have t0 : ((L.length : Int) == 0) = false := beq_eq_false_iff_ne.2 (by omega)
    have t1 : ((L.length : Int) == 1) = false := beq_eq_false_iff_ne.2 (by omega)
    clear hL h3
    go_enter Tryz.func201, Tryz.ntmps201
    go_wp2_with fail
    go_ret
    exact ⟨rfl, hA⟩
theorem whole_any (c : Change) (s : Int) (v : Value) (w : World) (h : Rdv w Never v c.hunks) :
    Calls Tryz.prog 201 #[.agg #[.int .i64 c.what, .string c.path, v], .int .u8 s] w fun e w' => e = .returned (.bool (wholeB c.hunks s)) ∧ Chg Never w w' := whole_go _ _ _ _ _ _ h
end Go.Proofs.YtjiaidchcldocaaGreatDoor
