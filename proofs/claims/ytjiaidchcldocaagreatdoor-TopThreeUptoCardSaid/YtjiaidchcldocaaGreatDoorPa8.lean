/-
  PARTS: CHANGES AS CELLS, and handstitchsame.Patches.; THE WALKS of patch.whole, shape, one, Check.; THE WALKS of patch.shape, one, Check.; PATCHES AS TEXTS, in plain Lean: the document's reading of a change's two lines is the program's; the loop's steps.; THE WALKS of git.headed and Print.; A CHANGE's HUNKS READ LINE BY LINE, in plain Lean: what holds at each line.; A SLICE OF A SLICE, as a run, at whatever element type (light: no function walked).; append OF A WHOLE SLICE whose elements lie in blocks of their own, to one of the call's own. No program in sight.; MORE ON ROWS THAT append HAS BUILT, whose elements lie elsewhere.
-/
import Derived.Test.YtjiaidchcldocaaGreatDoorPa7
import Derived.Test.YtjiaidchcldocaaGreatDoorPa5
import Derived.StillTailTactics
import Derived.Test.YtjiaidchcldocaaGreatDoorPa4
import Derived.Test.YtjiaidchcldocaaGreatDoorPa3
import Derived.BigQuiet
import Derived.Test.YtjiaidchcldocaaGreatDoorPa6
import Derived.WalkSpells
set_option linter.unusedVariables false
set_option linter.unusedSimpArgs false
namespace Go.Proofs.YtjiaidchcldocaaGreatDoor
open Go.RowKit

theorem elemOk_change : ElemOk Tryz.prog 51 85 3 := elemOk_of Tryz.underlying51 (z := .agg #[.int .i64 0, .string ⟨#[]⟩, .slice none 0 0]) (b := 48) (by kernel_rfl) rfl (by decide)
theorem elems_change {w : World} {O : Nat → Prop} {a : Option Addr} {l : List Change} (h : Elems w O a l) {i : Nat} {x : Change} (hx : l[i]? = some x) :
    ∃ b off v, a = some ⟨b, off, none⟩ ∧ ¬ O b ∧ b < w.heap.size ∧ w.cell? ⟨b, off + i * 3, none⟩ = some (.int .i64 x.what) ∧ w.cell? ⟨b, off + i * 3 + 1, none⟩ = some (.string x.path) ∧ w.cell? ⟨b, off + i * 3 + 2, none⟩ = some v ∧ x.path.size ≤ maxLen ∧ Rdv w O v x.hunks := by
  obtain ⟨b, off, es, ha, hb, hcs, v, rfl, hp, hv⟩ := h i x hx
  refine ⟨b, off, v, ha, hb, hcs.lt (by simp), ?_, ?_, ?_, hp, hv⟩
  · simpa [Dat.n] using hcs 0 _ rfl
  · simpa [Dat.n] using hcs 1 _ rfl
  · simpa [Dat.n] using hcs 2 _ rfl

theorem two_keep {w0 w w' : World} {a b : Addr} {x y : Value} (h : Chg Never w0 w ∧ w.cell? a = some x ∧ w.cell? b = some y) (hc : Chg Never w w') : Chg Never w0 w' ∧ w'.cell? a = some x ∧ w'.cell? b = some y :=
  ⟨h.1.trans hc, hc.cellNever h.2.1, hc.cellNever h.2.2⟩

set_option maxHeartbeats 1000000 in
set_option maxRecDepth 100000 in
theorem patches_any (l m : List Change) (v u : Value) (w : World) (h : Rdv w Never v l) (g : Rdv w Never u m) :
    Calls Tryz.prog 28 #[v, u] w fun e w' => e = .returned (.bool (decide (l = m))) ∧ Chg Never w w' := by
  obtain ⟨a, cap, rfl, h1, h2, h3⟩ := rdv_slice h
  obtain ⟨c, cap', rfl, g1, g2, g3⟩ := rdv_slice g
  unfold maxLen at h2 g2
  by_cases h4 : l.length = m.length
  · have h4' : ((l.length : Int) != m.length) = false := by simp [h4]
    have H4 := Lib.hid h4
    clear h4
    go_enter Tryz.func28, Tryz.ntmps28
    go_wp2_with fail
    go_loopw [5] (fun i wr => ∃ k : Nat, k ≤ l.length ∧ i = .int .i64 k ∧ Hid (l.take k = m.take k) ∧ Chg Never w wr) (fun i _ => l.length - (intOf i).toNat)
    case atStart => exact ⟨0, Nat.zero_le _, rfl, by simp [Hid], Chg.refl _ _⟩
    case round =>
      obtain ⟨k, hk, rfl, hf, hc⟩ := hrel
      by_cases hlt : k < l.length
      · obtain ⟨x, hx⟩ : ∃ x, l[k]? = some x := ⟨l[k], by simp [hlt]⟩
        obtain ⟨y, hy⟩ : ∃ y, m[k]? = some y := ⟨m[k]'(by rw [← H4.out]; exact hlt), by simp [H4.out ▸ hlt]⟩
        obtain ⟨b, off, mv, rfl, _, _, c0, c1, c2, _, hmv⟩ := elems_change h3 hx
        obtain ⟨b', off', mv', rfl, _, _, d0, d1, d2, _, hmv'⟩ := elems_change g3 hy
        have C0 := Lib.hid c0
        have D0 := Lib.hid d0
        have C1 := Lib.hid c1
        have D1 := Lib.hid d1
        have c2 := hc.cellNever c2
        have d2 := hc.cellNever d2
        have hmv := hmv.never hc
        have hmv' := hmv'.never hc
        clear h3 g3 h g c0 d0 c1 d1
        have hlm : k < m.length := by rw [← H4.out]; exact hlt
        have HX := Lib.hid hx
        have HY := Lib.hid hy
        clear hx hy
        have b1 : (k : Int) < l.length := by omega
        have b2 : (k : Int) < m.length := by omega
        by_cases hls : x.hunks = y.hunks
        · by_cases hpp : x.path = y.path
          · by_cases hww : x.what = y.what
            · have hxy : x = y := by
                cases x; cases y
                simp only at hls hpp hww
                rw [hls, hpp, hww]
              have HLS := Lib.hid (decide_eq_true hls)
              have HXY := Lib.hid hxy
              have t1 : (x.path.toList == y.path.toList) = true := by rw [hpp]; exact beq_self_eq_true _
              have t2 : (x.what == y.what) = true := by simp [hww]
              clear hls hpp hww hxy
              go_wp2_with fail
              refine wp_region_still_tail 10 (by kernel_rfl) (by kernel_rfl) ?_
              simp only [List.take_succ_cons, List.take_zero, List.drop_succ_cons, List.drop_zero]
              change wpStill _ _ wr.drew _ _ _
              repeat still_step
              refine wpStill_nil ?_
              change wpList _ _ _ _ _ wr.drew
              have hcd : Chg Never w wr.drew := hc.drew
              have hmd := hmv.never ((Chg.refl Never wr).drew)
              have hmd' := hmv'.never ((Chg.refl Never wr).drew)
              generalize wr.drew = w3 at hcd hmd hmd'
              clear hmv hmv' c2 d2 hc
              go_wp2_with fail
              refine (hunks_eq_any x.hunks y.hunks _ _ _ hmd hmd').mono ?_
              rintro e w4 ⟨rfl, hc4⟩
              have hc5 := hcd.trans hc4
              have c0 := hc5.cellNever C0.out
              have d0 := hc5.cellNever D0.out
              have c1 := hc5.cellNever C1.out
              have d1 := hc5.cellNever D1.out
              clear hmd hmd' hcd hc4
              rw [HLS.out]
              go_wp2_with fail
              go_quiet (fail)
              go_wp2_with fail
              go_roundw
              case rel => exact ⟨k + 1, by omega, by go_num, take_same hf HX.out (by rw [HXY.out]; exact HY.out), hc5.drewN _⟩
              case measure => simp [intOf] <;> omega
            · have hxy : x ≠ y := fun e => hww (by rw [e])
              have HN := Lib.hid (decide_eq_false (ne_of_get HX.out HY.out hxy))
              have t1 : (x.path.toList == y.path.toList) = true := by rw [hpp]; exact beq_self_eq_true _
              have t2 : (x.what == y.what) = false := by simp [hww]
              have HLS := Lib.hid (decide_eq_true hls)
              clear hls hpp hww hxy
              go_wp2_with fail
              refine wp_region_still_tail 10 (by kernel_rfl) (by kernel_rfl) ?_
              simp only [List.take_succ_cons, List.take_zero, List.drop_succ_cons, List.drop_zero]
              change wpStill _ _ wr.drew _ _ _
              repeat still_step
              refine wpStill_nil ?_
              change wpList _ _ _ _ _ wr.drew
              have hcd : Chg Never w wr.drew := hc.drew
              have hmd := hmv.never ((Chg.refl Never wr).drew)
              have hmd' := hmv'.never ((Chg.refl Never wr).drew)
              generalize wr.drew = w3 at hcd hmd hmd'
              clear hmv hmv' c2 d2 hc
              go_wp2_with fail
              refine (hunks_eq_any x.hunks y.hunks _ _ _ hmd hmd').mono ?_
              rintro e w4 ⟨rfl, hc4⟩
              have hc5 := hcd.trans hc4
              have c0 := hc5.cellNever C0.out
              have d0 := hc5.cellNever D0.out
              have c1 := hc5.cellNever C1.out
              have d1 := hc5.cellNever D1.out
              clear hmd hmd' hcd hc4
              rw [HLS.out]
              go_wp2_with fail
              go_quiet (fail)
              go_wp2_with fail
              go_ret
              exact ⟨by rw [HN.out]; rfl, hc5.drewN _⟩
          · have hxy : x ≠ y := fun e => hpp (by rw [e])
            have t0 := str_beq_false hpp
            have t1 : (x.path.toList != y.path.toList) = true := by show (!(x.path.toList == y.path.toList)) = true; rw [t0]; rfl
            have HN := Lib.hid (decide_eq_false (ne_of_get HX.out HY.out hxy))
            have HLS := Lib.hid (decide_eq_true hls)
            clear hls hpp hxy
            go_wp2_with fail
            refine wp_region_still_tail 10 (by kernel_rfl) (by kernel_rfl) ?_
            simp only [List.take_succ_cons, List.take_zero, List.drop_succ_cons, List.drop_zero]
            change wpStill _ _ wr.drew _ _ _
            repeat still_step
            refine wpStill_nil ?_
            change wpList _ _ _ _ _ wr.drew
            have hcd : Chg Never w wr.drew := hc.drew
            have hmd := hmv.never ((Chg.refl Never wr).drew)
            have hmd' := hmv'.never ((Chg.refl Never wr).drew)
            generalize wr.drew = w3 at hcd hmd hmd'
            clear hmv hmv' c2 d2 hc
            go_wp2_with fail
            refine (hunks_eq_any x.hunks y.hunks _ _ _ hmd hmd').mono ?_
            rintro e w4 ⟨rfl, hc4⟩
            have hc5 := hcd.trans hc4
            have c0 := hc5.cellNever C0.out
            have d0 := hc5.cellNever D0.out
            have c1 := hc5.cellNever C1.out
            have d1 := hc5.cellNever D1.out
            clear hmd hmd' hcd hc4
            rw [HLS.out]
            go_wp2_with fail
            go_quiet (fail)
            go_wp2_with fail
            go_ret
            exact ⟨by rw [HN.out]; rfl, hc5.drewN _⟩
        · have hxy : x ≠ y := fun e => hls (by rw [e])
          have HN := Lib.hid (decide_eq_false (ne_of_get HX.out HY.out hxy))
          have HLS := Lib.hid (decide_eq_false hls)
          clear hls hxy
          go_wp2_with fail
          refine wp_region_still_tail 10 (by kernel_rfl) (by kernel_rfl) ?_
          simp only [List.take_succ_cons, List.take_zero, List.drop_succ_cons, List.drop_zero]
          change wpStill _ _ wr.drew _ _ _
          repeat still_step
          refine wpStill_nil ?_
          change wpList _ _ _ _ _ wr.drew
          have hcd : Chg Never w wr.drew := hc.drew
          have hmd := hmv.never ((Chg.refl Never wr).drew)
          have hmd' := hmv'.never ((Chg.refl Never wr).drew)
          generalize wr.drew = w3 at hcd hmd hmd'
          clear hmv hmv' c2 d2 hc
          go_wp2_with fail
          refine (hunks_eq_any x.hunks y.hunks _ _ _ hmd hmd').mono ?_
          rintro e w4 ⟨rfl, hc4⟩
          have hc5 := hcd.trans hc4
          have c0 := hc5.cellNever C0.out
          have d0 := hc5.cellNever D0.out
          have c1 := hc5.cellNever C1.out
          have d1 := hc5.cellNever D1.out
          clear hmd hmd' hcd hc4
          rw [HLS.out]
          go_wp2_with fail
          go_quiet (fail)
          go_wp2_with fail
          go_ret
          exact ⟨by rw [HN.out]; rfl, hc5.drewN _⟩
      · go_wp2_with fail
        go_ret
        have E : l = m := by
          have := hf.out
          rw [List.take_of_length_le (by omega), List.take_of_length_le (by rw [← H4.out]; omega)] at this
          exact this
        exact ⟨by rw [decide_eq_true E]; rfl, hc⟩
  · have h4' : ((l.length : Int) != m.length) = true := by simp; omega
    go_enter Tryz.func28, Tryz.ntmps28
    go_wp2_with fail
    go_ret
    exact ⟨by rw [decide_eq_false (fun e => h4 (by rw [e]))]; rfl, Chg.refl _ _⟩
end Go.Proofs.YtjiaidchcldocaaGreatDoor
namespace Go.Proofs.YtjiaidchcldocaaGreatDoor
open Go.RowKit

theorem other_any (sg s : Int) (tx : ByteArray) (p : Addr) (w : World) (h : w.cell? p = some (.int .u8 s)) :
    Calls Tryz.prog 224 #[.agg #[.int .u8 sg, .string tx], .pointer (some p)] w fun e w' => e = .returned (.bool (sg != s)) ∧ Chg Never w w' := by
  have h := ((Chg.refl Never w).alloc (.cells #[.int .u8 sg, .string tx] 126)).cellNever h
  go_enter Tryz.func224, Tryz.ntmps224
  go_wp2_with fail
  go_ret
  exact ⟨rfl, (Chg.refl _ _).alloc _⟩
def allSign (l : List Mark) (s : Int) : Bool := l.all fun m => decide (m.sign = s)
theorem allSign_take {l : List Mark} {k : Nat} {x : Mark} {s : Int} (hx : l[k]? = some x) (h : allSign (l.take k) s = true) : allSign (l.take (k + 1)) s = decide (x.sign = s) := by
  rw [List.take_add_one, hx]
  unfold allSign at *
  rw [List.all_append, h]
  simp
theorem allSign_bad {l : List Mark} {k : Nat} {x : Mark} {s : Int} (hx : l[k]? = some x) (h : x.sign ≠ s) : allSign l s = false := by
  unfold allSign
  rw [List.all_eq_false]
  exact ⟨x, List.mem_of_getElem? hx, by simp [h]⟩
def OthPost (l : List Mark) (s : Int) (w : World) (e : Ending) (w' : World) : Prop := ∃ n : Int, e = .returned (.int .i64 n) ∧ -1 ≤ n ∧ decide (0 ≤ n) = !(allSign l s) ∧ Chg Never w w'
set_option maxHeartbeats 1000000 in
set_option maxRecDepth 100000 in
theorem index_other (l : List Mark) (s : Int) (v : Value) (p : Addr) (w : World) (h : Rdv w Never v l) (hp : w.cell? p = some (.int .u8 s)) :
    Calls Tryz.prog 211 #[v, .func (.func 224) #[] #[.pointer (some p)]] w (OthPost l s w) := by
  obtain ⟨a, cap, rfl, h1, h2, h3⟩ := rdv_slice h
  unfold maxLen at h2
  go_enter Tryz.func211, Tryz.ntmps211
  go_wp2_with fail
  go_loopw [8] (fun i wr => ∃ k : Nat, k ≤ l.length ∧ i = .int .i64 k ∧ Hid (allSign (l.take k) s = true) ∧ Chg Never w wr) (fun i _ => l.length - (intOf i).toNat)
  case atStart => exact ⟨0, Nat.zero_le _, rfl, rfl, Chg.refl _ _⟩
  case round =>
    obtain ⟨k, hk, rfl, hf, hc⟩ := hrel
    by_cases hlt : k < l.length
    · obtain ⟨x, hx⟩ : ∃ x, l[k]? = some x := ⟨l[k], by simp [hlt]⟩
      obtain ⟨b, off, rfl, _, _, c0, c1, s0, s1, hxs⟩ := elems_mark h3 hx
      have c0 := hc.cellNever c0
      have c1 := hc.cellNever c1
      have HT := Lib.hid (allSign_take hx hf.out)
      have HB : ∀ _ : x.sign ≠ s, Hid (allSign l s = false) := fun e => allSign_bad hx e
      clear hx h3 h
      obtain ⟨sg, tx⟩ := x
      simp only at c0 c1 s0 s1 hxs HB HT
      by_cases h32 : sg = s
      · have t1 : (sg != s) = false := by simp [h32]
        go_wp2_with (go_at_call 224; refine (other_any _ s _ _ _ (hc.cellNever hp)).mono ?_; rintro e w2 ⟨rfl, hc2⟩)
        go_roundw
        case rel => exact ⟨k + 1, by omega, by go_num, by rw [Hid, HT.out]; exact decide_eq_true h32, hc.trans hc2⟩
        case measure => simp [intOf] <;> omega
      · have t1 : (sg != s) = true := by simp [h32]
        have E := HB h32
        clear HB HT
        go_wp2_with (go_at_call 224; refine (other_any _ s _ _ _ (hc.cellNever hp)).mono ?_; rintro e w2 ⟨rfl, hc2⟩)
        go_ret
        exact ⟨k, rfl, by omega, by rw [E.out]; simp, hc.trans hc2⟩
    · go_wp2_with fail
      go_ret
      have E : allSign l s = true := by have := hf.out; rwa [List.take_of_length_le (by omega)] at this
      exact ⟨-1, rfl, by omega, by rw [E]; rfl, hc⟩
theorem contains_other (l : List Mark) (s : Int) (v : Value) (p : Addr) (w : World) (h : Rdv w Never v l) (hp : w.cell? p = some (.int .u8 s)) :
    Calls Tryz.prog 181 #[v, .func (.func 224) #[] #[.pointer (some p)]] w fun e w' => e = .returned (.bool (!(allSign l s))) ∧ Chg Never w w' := by
  go_enter Tryz.func181, Tryz.ntmps181
  go_wp2_with fail
  refine (index_other l s _ _ _ h hp).mono ?_
  rintro e w1 ⟨n, rfl, hn, hd, hc⟩
  have HD := Lib.hid hd
  clear hd
  go_wp2_with fail
  go_ret
  exact ⟨by rw [← HD.out]; rfl, hc⟩

/-- a change and a sign in boxes -/
theorem box_change (w : World) (T U : TypeId) (k s : Int) (p : ByteArray) (v : Value) (W : World) (hW : W = (w.alloc (.cells #[.int .i64 k, .string p, v] T)).alloc (.cells #[.int .u8 s] U)) :
    Chg Never w W ∧ W.cell? ⟨w.heap.size, 0, none⟩ = some (.int .i64 k) ∧ W.cell? ⟨w.heap.size, 1, none⟩ = some (.string p) ∧ W.cell? ⟨w.heap.size, 2, none⟩ = some v ∧ W.cell? ⟨w.heap.size + 1, 0, none⟩ = some (.int .u8 s) := by
  subst hW
  have hA : Chg Never w (w.alloc (.cells #[.int .i64 k, .string p, v] T)) := (Chg.refl Never w).alloc _
  have hB := (Chg.refl Never (w.alloc (.cells #[.int .i64 k, .string p, v] T))).alloc (.cells #[.int .u8 s] U)
  have n := heap_alloc_new w (.cells #[.int .i64 k, .string p, v] T)
  have n2 := heap_alloc_new (w.alloc (.cells #[.int .i64 k, .string p, v] T)) (.cells #[.int .u8 s] U)
  rw [World.size_alloc] at n2
  refine ⟨hA.trans hB, hB.cellNever ?_, hB.cellNever ?_, hB.cellNever ?_, ?_⟩
  · simp only [World.cell?]; rw [n]; rfl
  · simp only [World.cell?]; rw [n]; rfl
  · simp only [World.cell?]; rw [n]; rfl
  · simp only [World.cell?]; rw [n2]; rfl
theorem box1_change (w : World) (T : TypeId) (k : Int) (p : ByteArray) (v : Value) (W : World) (hW : W = w.alloc (.cells #[.int .i64 k, .string p, v] T)) :
    Chg Never w W ∧ W.cell? ⟨w.heap.size, 0, none⟩ = some (.int .i64 k) ∧ W.cell? ⟨w.heap.size, 1, none⟩ = some (.string p) ∧ W.cell? ⟨w.heap.size, 2, none⟩ = some v := by
  subst hW
  have n := heap_alloc_new w (.cells #[.int .i64 k, .string p, v] T)
  refine ⟨(Chg.refl Never w).alloc _, ?_, ?_, ?_⟩ <;> (simp only [World.cell?]; rw [n]; rfl)
theorem wholeB_one (h : Hunk) (s : Int) : wholeB [h] s = (decide (h.old = 0) && decide (h.new = 0) && allSign h.marks s) := rfl
theorem wholeB_many {l : List Hunk} {s : Int} (h : 2 ≤ l.length) : wholeB l s = false := by
  match l, h with
  | _ :: _ :: _, _ => rfl
set_option maxHeartbeats 2000000 in
set_option maxRecDepth 100000 in
theorem whole_go (wh : Int) (pa : ByteArray) (hs : List Hunk) (s : Int) (v : Value) (w : World) (h : Rdv w Never v hs) :
    Calls Tryz.prog 201 #[.agg #[.int .i64 wh, .string pa, v], .int .u8 s] w fun e w' => e = .returned (.bool (wholeB hs s)) ∧ Chg Never w w' := by
  obtain ⟨a, cap, rfl, h1, h2, h3⟩ := rdv_slice h
  obtain ⟨hA, b0, b1, b2, bs⟩ := box_change w 85 5 wh s pa (.slice a hs.length cap) _ rfl
  match hs, h, h1, h2, h3, hA, b0, b1, b2, bs with
  | [], h, h1, h2, h3, hA, b0, b1, b2, bs =>
    have e0 : wholeB [] s = true := rfl
    rw [e0]
    go_enter Tryz.func201, Tryz.ntmps201
    go_wp2_with fail
    go_ret
    exact ⟨rfl, hA⟩
  | [x], h, h1, h2, h3, hA, b0, b1, b2, bs =>
    obtain ⟨b, off, mv, rfl, _, _, c0, c1, c2, hmv⟩ := elems_hunk h3 (i := 0) rfl
    simp only [Nat.zero_mul, Nat.add_zero] at c0 c1 c2
    have c0 := hA.cellNever c0
    have c1 := hA.cellNever c1
    have c2 := hA.cellNever c2
    have hmv := hmv.never hA
    rw [wholeB_one]
    clear h3
    by_cases o : x.old = 0
    · by_cases n : x.new = 0
      · rw [decide_eq_true o, decide_eq_true n]
        have o0 : (x.old == 0) = true := by simp [o]
        have n0 : (x.new == 0) = true := by simp [n]
        clear o n
        go_enter Tryz.func201, Tryz.ntmps201
        go_wp2_with fail
        refine (contains_other x.marks s _ _ _ hmv bs).mono ?_
        rintro e w2 ⟨rfl, hc2⟩
        go_wp2_with fail
        go_ret
        exact ⟨by simp, hA.trans hc2⟩
      · rw [decide_eq_true o, decide_eq_false n]
        have o0 : (x.old == 0) = true := by simp [o]
        have n0 : (x.new == 0) = false := by simp [n]
        clear o n
        go_enter Tryz.func201, Tryz.ntmps201
        go_wp2_with fail
        go_ret
        exact ⟨rfl, hA⟩
    · rw [decide_eq_false o]
      have o0 : (x.old == 0) = false := by simp [o]
      clear o
      go_enter Tryz.func201, Tryz.ntmps201
      go_wp2_with fail
      go_ret
      exact ⟨rfl, hA⟩
  | x :: y :: r, h, h1, h2, h3, hA, b0, b1, b2, bs =>
    rw [wholeB_many (by simp)]
    generalize hL : x :: y :: r = L at b0 b1 b2 bs h h1 h2 hA ⊢
    have hge : 2 ≤ L.length := by rw [← hL]; simp
    have t0 : ((L.length : Int) == 0) = false := beq_eq_false_iff_ne.2 (by omega)
    have t1 : ((L.length : Int) == 1) = false := beq_eq_false_iff_ne.2 (by omega)
    clear hL h3
    go_enter Tryz.func201, Tryz.ntmps201
    go_wp2_with fail
    go_ret
    exact ⟨rfl, hA⟩
theorem whole_any (c : Change) (s : Int) (v : Value) (w : World) (h : Rdv w Never v c.hunks) :
    Calls Tryz.prog 201 #[.agg #[.int .i64 c.what, .string c.path, v], .int .u8 s] w fun e w' => e = .returned (.bool (wholeB c.hunks s)) ∧ Chg Never w w' := whole_go _ _ _ _ _ _ h
end Go.Proofs.YtjiaidchcldocaaGreatDoor
namespace Go.Proofs.YtjiaidchcldocaaGreatDoor
open Go.RowKit

set_option maxHeartbeats 1000000 in
set_option maxRecDepth 100000 in
theorem shape_any (c : Change) (v : Value) (w : World) (h : Rdv w Never v c.hunks) :
    Calls Tryz.prog 166 #[.agg #[.int .i64 c.what, .string c.path, v]] w fun e w' => e = .returned (.bool (shapeB c)) ∧ Chg Never w w' := by
  obtain ⟨a, cap, rfl, h1, h2, _⟩ := rdv_slice h
  obtain ⟨hA, b0, b1, b2⟩ := box1_change w 85 c.what c.path (.slice a c.hunks.length cap) _ rfl
  by_cases k2 : c.what = 2
  · have E : Hid (shapeB c = wholeB c.hunks 43) := if_pos k2
    have t2 : (c.what == 2) = true := by simp [k2]
    clear k2
    go_enter Tryz.func166, Tryz.ntmps166
    go_wp2_with fail
    refine (whole_any c 43 _ _ (h.never hA)).mono ?_
    rintro e w2 ⟨rfl, hc2⟩
    go_wp2_with fail
    go_ret
    exact ⟨by rw [E.out]; rfl, hA.trans hc2⟩
  · have t2 : (c.what == 2) = false := by simp [k2]
    by_cases k3 : c.what = 3
    · have E : Hid (shapeB c = wholeB c.hunks 45) := by unfold Hid shapeB; rw [if_neg k2, if_pos k3]
      have t3 : (c.what == 3) = true := by simp [k3]
      clear k2 k3
      go_enter Tryz.func166, Tryz.ntmps166
      go_wp2_with fail
      refine (whole_any c 45 _ _ (h.never hA)).mono ?_
      rintro e w2 ⟨rfl, hc2⟩
      go_wp2_with fail
      go_ret
      exact ⟨by rw [E.out]; rfl, hA.trans hc2⟩
    · have E : Hid (shapeB c = decide (0 < c.hunks.length)) := by
        unfold Hid shapeB
        rw [if_neg k2, if_neg k3]
        cases c.hunks <;> simp
      have t3 : (c.what == 3) = false := by simp [k3]
      clear k2 k3
      go_enter Tryz.func166, Tryz.ntmps166
      go_wp2_with fail
      go_ret
      exact ⟨by rw [E.out]; rfl, hA⟩
theorem cf_rng {c : Change} (h : c.what < 1 ∨ 3 < c.what) : changeFault c = 1 := if_pos h
theorem cf_path {c : Change} (h : ¬ (c.what < 1 ∨ 3 < c.what)) (g : pathFault c.path ≠ 0) : changeFault c = pathFault c.path := by unfold changeFault; rw [if_neg h, if_pos g]
theorem cf_hunks {c : Change} (h : ¬ (c.what < 1 ∨ 3 < c.what)) (g : pathFault c.path = 0) (k : (hunksFault c.hunks).2 ≠ 0) : changeFault c = (hunksFault c.hunks).2 := by unfold changeFault; rw [if_neg h, if_neg (by rw [g]; decide), if_pos k]
theorem cf_shape {c : Change} (h : ¬ (c.what < 1 ∨ 3 < c.what)) (g : pathFault c.path = 0) (k : (hunksFault c.hunks).2 = 0) (s : shapeB c = false) : changeFault c = 2 := by unfold changeFault; rw [if_neg h, if_neg (by rw [g]; decide), if_neg (by rw [k]; decide), if_neg (by rw [s]; decide)]
theorem cf_ok {c : Change} (h : ¬ (c.what < 1 ∨ 3 < c.what)) (g : pathFault c.path = 0) (k : (hunksFault c.hunks).2 = 0) (s : shapeB c = true) : changeFault c = 0 := by unfold changeFault; rw [if_neg h, if_neg (by rw [g]; decide), if_neg (by rw [k]; decide), if_pos s]
set_option maxHeartbeats 2000000 in
set_option maxRecDepth 100000 in
theorem patch_one_any (c : Change) (v : Value) (w : World) (h : Rdv w Never v c.hunks) (m : Int) (hm : w.cell? ⟨1, 0, none⟩ = some (.int .i64 m)) :
    Calls Tryz.prog 113 #[.agg #[.int .i64 c.what, .string c.path, v]] w fun e w' => e = .returned (errV (changeFault c)) ∧ Chg Never w w' := by
  obtain ⟨a, cap, rfl, h1, h2, _⟩ := rdv_slice h
  obtain ⟨hA, b0, b1, b2⟩ := box1_change w 85 c.what c.path (.slice a c.hunks.length cap) _ rfl
  by_cases r : c.what < 1 ∨ 3 < c.what
  · rw [cf_rng r]
    rcases r with r | r
    · go_enter Tryz.func113, Tryz.ntmps113
      go_wp2_with fail
      go_ret
      exact ⟨rfl, hA⟩
    · have r0 : ¬ c.what < 1 := by omega
      go_enter Tryz.func113, Tryz.ntmps113
      go_wp2_with fail
      go_ret
      exact ⟨rfl, hA⟩
  · have r0 : ¬ c.what < 1 := by omega
    have r1 : ¬ 3 < c.what := by omega
    by_cases z : pathFault c.path = 0
    · have Z := Lib.hid z
      by_cases y : (hunksFault c.hunks).2 = 0
      · have Y := Lib.hid y
        cases s : shapeB c with
        | true =>
          have E := Lib.hid (cf_ok r z y s)
          have S := Lib.hid s
          clear r z y s
          go_enter Tryz.func113, Tryz.ntmps113
          go_wp2_with fail
          generalize w.alloc (.cells #[.int .i64 c.what, .string c.path, .slice a c.hunks.length cap] 85) = wA at hA b0 b1 b2 ⊢
          refine (line_path_any c.path _ m (hA.cellNever hm)).mono ?_
          rintro e w2 ⟨rfl, hc2⟩
          have hw := hA.trans hc2
          have b0 := hc2.cellNever b0
          have b1 := hc2.cellNever b1
          have b2 := hc2.cellNever b2
          clear hc2
          rw [Z.out, errV_zero]
          go_wp2_with fail
          refine (hunk_check_any c.hunks _ _ (h.never hw)).mono ?_
          rintro e w3 ⟨rfl, hc3⟩
          have hw := hw.trans hc3
          have b0 := hc3.cellNever b0
          have b1 := hc3.cellNever b1
          have b2 := hc3.cellNever b2
          clear hc3
          rw [Y.out, errV_zero]
          go_wp2_with fail
          refine (shape_any c _ _ (h.never hw)).mono ?_
          rintro e w4 ⟨rfl, hc4⟩
          rw [S.out]
          clear b0 b1 b2
          go_wp2_with fail
          go_ret
          exact ⟨by rw [E.out]; rfl, hw.trans hc4⟩
        | false =>
          have E := Lib.hid (cf_shape r z y s)
          have S := Lib.hid s
          clear r z y s
          go_enter Tryz.func113, Tryz.ntmps113
          go_wp2_with fail
          generalize w.alloc (.cells #[.int .i64 c.what, .string c.path, .slice a c.hunks.length cap] 85) = wA at hA b0 b1 b2 ⊢
          refine (line_path_any c.path _ m (hA.cellNever hm)).mono ?_
          rintro e w2 ⟨rfl, hc2⟩
          have hw := hA.trans hc2
          have b0 := hc2.cellNever b0
          have b1 := hc2.cellNever b1
          have b2 := hc2.cellNever b2
          clear hc2
          rw [Z.out, errV_zero]
          go_wp2_with fail
          refine (hunk_check_any c.hunks _ _ (h.never hw)).mono ?_
          rintro e w3 ⟨rfl, hc3⟩
          have hw := hw.trans hc3
          have b0 := hc3.cellNever b0
          have b1 := hc3.cellNever b1
          have b2 := hc3.cellNever b2
          clear hc3
          rw [Y.out, errV_zero]
          go_wp2_with fail
          refine (shape_any c _ _ (h.never hw)).mono ?_
          rintro e w4 ⟨rfl, hc4⟩
          rw [S.out]
          clear b0 b1 b2
          go_wp2_with fail
          go_ret
          exact ⟨by rw [E.out]; rfl, hw.trans hc4⟩
      · have E := Lib.hid (cf_hunks r z y)
        have Y := Lib.hid y
        clear r z y
        go_enter Tryz.func113, Tryz.ntmps113
        go_wp2_with fail
        generalize w.alloc (.cells #[.int .i64 c.what, .string c.path, .slice a c.hunks.length cap] 85) = wA at hA b0 b1 b2 ⊢
        refine (line_path_any c.path _ m (hA.cellNever hm)).mono ?_
        rintro e w2 ⟨rfl, hc2⟩
        have hw := hA.trans hc2
        have b0 := hc2.cellNever b0
        have b1 := hc2.cellNever b1
        have b2 := hc2.cellNever b2
        clear hc2
        rw [Z.out, errV_zero]
        go_wp2_with fail
        refine (hunk_check_any c.hunks _ _ (h.never hw)).mono ?_
        rintro e w3 ⟨rfl, hc3⟩
        have hw := hw.trans hc3
        have b0 := hc3.cellNever b0
        have b1 := hc3.cellNever b1
        have b2 := hc3.cellNever b2
        clear hc3
        rw [errV_pos Y.out]
        clear b0 b1 b2
        go_wp2_with fail
        go_ret
        exact ⟨by rw [E.out, errV_pos Y.out]; rfl, hw⟩
    · have E := Lib.hid (cf_path r z)
      have Z := Lib.hid z
      clear r z
      go_enter Tryz.func113, Tryz.ntmps113
      go_wp2_with fail
      generalize w.alloc (.cells #[.int .i64 c.what, .string c.path, .slice a c.hunks.length cap] 85) = wA at hA b0 b1 b2 ⊢
      refine (line_path_any c.path _ m (hA.cellNever hm)).mono ?_
      rintro e w2 ⟨rfl, hc2⟩
      have hw := hA.trans hc2
      have b0 := hc2.cellNever b0
      have b1 := hc2.cellNever b1
      have b2 := hc2.cellNever b2
      clear hc2
      rw [errV_pos Z.out]
      clear b0 b1 b2
      go_wp2_with fail
      go_ret
      exact ⟨by rw [E.out, errV_pos Z.out]; rfl, hw⟩
/-! ### Check -/
def prevC (t : List Change) (k : Nat) : Option ByteArray := if k = 0 then none else (t[k - 1]?).map (·.path)
theorem prevC_succ {t : List Change} {k : Nat} {f : Change} (h : t[k]? = some f) : prevC t (k + 1) = some f.path := by unfold prevC; simp [h]
theorem patchGo_next {t : List Change} {k : Nat} {f : Change} {prev : Option ByteArray} (hd : t.drop k = f :: t.drop (k + 1)) (h1 : changeFault f = 0) (h2 : prev.any (fun p => leqB f.path p) = false) : patchGo k prev (t.drop k) = patchGo (k + 1) (some f.path) (t.drop (k + 1)) := by
  rw [hd, patchGo, if_neg (by simp [h1]), if_neg (by rw [h2]; decide)]
theorem patchGo_bad {t : List Change} {k : Nat} {f : Change} {prev : Option ByteArray} (hd : t.drop k = f :: t.drop (k + 1)) (h1 : changeFault f ≠ 0) : patchGo k prev (t.drop k) = (k, changeFault f) := by
  rw [hd, patchGo, if_pos h1]
theorem patchGo_order {t : List Change} {k : Nat} {f : Change} {p : ByteArray} (hd : t.drop k = f :: t.drop (k + 1)) (h1 : changeFault f = 0) (h2 : leqB f.path p = true) : patchGo k (some p) (t.drop k) = (k, 2) := by
  rw [hd, patchGo, if_neg (by simp [h1]), if_pos (by simpa using h2)]
theorem patchGo_end {t : List Change} {prev : Option ByteArray} : patchGo t.length prev (t.drop t.length) = (0, 0) := by rw [List.drop_length]; rfl
set_option maxHeartbeats 2000000 in
set_option maxRecDepth 100000 in
theorem patch_check_any (t : List Change) (v : Value) (w : World) (h : Rdv w Never v t) (m : Int) (hm : w.cell? ⟨1, 0, none⟩ = some (.int .i64 m)) :
    Calls Tryz.prog 70 #[v] w fun e w' => e = .returned (.tuple #[.int .i64 (patchFault t).1, errV (patchFault t).2]) ∧ Chg Never w w' := by
  obtain ⟨a, cap, rfl, h1, h2, h3⟩ := rdv_slice h
  unfold maxLen at h2
  by_cases h8 : 16 < t.length
  · have HF : Hid (patchFault t = (0, 3)) := if_pos h8
    go_enter Tryz.func70, Tryz.ntmps70
    go_wp2_with fail
    go_ret2
    exact ⟨by rw [HF.out]; rfl, Chg.refl _ _⟩
  · have HF : Hid (patchFault t = patchGo 0 (prevC t 0) (t.drop 0)) := if_neg h8
    go_enter Tryz.func70, Tryz.ntmps70
    go_wp2_with fail
    go_loopw [13] (fun i wr => ∃ k : Nat, k ≤ t.length ∧ i = .int .i64 k ∧ Chg Never w wr ∧ Hid (patchFault t = patchGo k (prevC t k) (t.drop k))) (fun i _ => t.length - (intOf i).toNat)
    case atStart => exact ⟨0, Nat.zero_le _, rfl, Chg.refl _ _, HF.out⟩
    case round =>
      clear HF
      obtain ⟨k, hk, rfl, hc, hG⟩ := hrel
      by_cases hlt : k < t.length
      · obtain ⟨x, hx⟩ : ∃ x, t[k]? = some x := ⟨t[k], by simp [hlt]⟩
        obtain ⟨b, off, lv, rfl, _, _, c0, c1, c2, hps, hlv⟩ := elems_change h3 hx
        obtain ⟨la, lcap, rfl, _, _, _⟩ := rdv_slice hlv
        have c0 := hc.cellNever c0
        have c1 := hc.cellNever c1
        have c2 := hc.cellNever c2
        have hlv := hlv.never hc
        have HD := Lib.hid (drop_eq hx)
        have HPV := Lib.hid (prevC_succ hx)
        have HX := Lib.hid hx
        obtain ⟨hA, b0, b1, b2⟩ := box1_change wr 85 x.what x.path (.slice la x.hunks.length lcap) _ rfl
        clear hx
        by_cases p0 : changeFault x = 0
        · have HFF := Lib.hid p0
          clear p0
          go_wp2_with fail
          generalize wr.alloc (.cells #[.int .i64 x.what, .string x.path, .slice la x.hunks.length lcap] 85) = w3 at hA b0 b1 b2 ⊢
          have hc3 := hc.trans hA
          refine (patch_one_any x _ _ (hlv.never hA) m (hc3.cellNever hm)).mono ?_
          rintro e w4 ⟨rfl, hc4⟩
          have b1 := hc4.cellNever b1
          have hcD := hc3.trans hc4
          clear hc4 hc3 hA c0 c1 c2 b0 b2
          rw [HFF.out, errV_zero]
          rcases Nat.eq_zero_or_pos k with h0 | h0
          · subst h0
            have HNX : Hid (patchFault t = patchGo (0 + 1) (prevC t (0 + 1)) (t.drop (0 + 1))) := by rw [Hid, HPV.out, hG.out]; exact patchGo_next HD.out HFF.out rfl
            clear hG
            go_wp2_with fail
            go_quiet (fail)
            go_wp2_with fail
            go_roundw
            case rel => exact ⟨0 + 1, by omega, by go_num, hcD.drewN _, HNX⟩
            case measure => simp [intOf] <;> omega
          · obtain ⟨k', rfl⟩ : ∃ k', k = k' + 1 := ⟨k - 1, by omega⟩
            obtain ⟨y, hy⟩ : ∃ y, t[k']? = some y := ⟨t[k']'(by omega), by simp [show k' < t.length by omega]⟩
            obtain ⟨b', off', lv', hbo, _, _, _, y0, _, _, _⟩ := elems_change h3 hy
            simp only [Option.some.injEq, Addr.mk.injEq, and_true] at hbo
            obtain ⟨rfl, rfl⟩ := hbo
            have y0 := hcD.cellNever y0
            have HPY : Hid (prevC t (k' + 1) = some y.path) := prevC_succ hy
            have z1 : (k' : Int) + 1 - 1 = k' := by omega
            have z2 : decide ((0 : Int) < (k' : Int) + 1) = true := decide_eq_true (by omega)
            clear hy
            rcases less_tri x.path y.path with g | g | g
            · have HE : Hid (patchFault t = (k' + 1, 2)) := by rw [Hid, hG.out, HPY.out]; exact patchGo_order HD.out HFF.out (leqB_true.2 (less_asymm g))
              have a1 : Op.bytesLess x.path.toList y.path.toList = true := g
              clear g hG
              go_wp2_with fail
              go_quiet (fail)
              go_wp2_with fail; go_ret2; exact ⟨by rw [HE.out]; rfl, hcD.drewN _⟩
            · have HE : Hid (patchFault t = (k' + 1, 2)) := by rw [Hid, hG.out, HPY.out]; exact patchGo_order HD.out HFF.out (leqB_true.2 (by rw [g]; exact less_irrefl _))
              have a1 : Op.bytesLess x.path.toList y.path.toList = false := by rw [g]; exact bl_irrefl _
              have a2 : (x.path.toList == y.path.toList) = true := by rw [g]; exact beq_self_eq_true _
              clear g hG
              go_wp2_with fail
              go_quiet (fail)
              go_wp2_with fail; go_ret2; exact ⟨by rw [HE.out]; rfl, hcD.drewN _⟩
            · have HNX : Hid (patchFault t = patchGo (k' + 1 + 1) (prevC t (k' + 1 + 1)) (t.drop (k' + 1 + 1))) := by
                rw [Hid, HPV.out, hG.out]
                refine patchGo_next HD.out HFF.out ?_
                rw [HPY.out, Option.any_some, Bool.eq_false_iff]
                intro e
                rw [leqB_true.1 e] at g; cases g
              have a1 : Op.bytesLess x.path.toList y.path.toList = false := less_asymm g
              have a2 := str_beq_false (less_ne g).symm
              clear g hG
              go_wp2_with fail
              go_quiet (fail)
              go_wp2_with fail
              go_roundw
              case rel => exact ⟨k' + 1 + 1, by omega, by go_num, hcD.drewN _, HNX⟩
              case measure => simp [intOf] <;> omega
        · have HE : Hid (patchFault t = (k, changeFault x)) := by rw [Hid, hG.out, patchGo_bad HD.out p0]
          have P0 := Lib.hid p0
          clear p0 hG
          go_wp2_with fail
          generalize wr.alloc (.cells #[.int .i64 x.what, .string x.path, .slice la x.hunks.length lcap] 85) = w3 at hA b0 b1 b2 ⊢
          have hc3 := hc.trans hA
          refine (patch_one_any x _ _ (hlv.never hA) m (hc3.cellNever hm)).mono ?_
          rintro e w4 ⟨rfl, hc4⟩
          have b1 := hc4.cellNever b1
          have hcD := hc3.trans hc4
          clear hc4 hc3 hA c0 c1 c2 b0 b2
          rw [errV_pos P0.out]
          go_wp2_with fail
          go_ret2
          exact ⟨by rw [HE.out, errV_pos P0.out]; rfl, hcD⟩
      · obtain rfl : k = t.length := by omega
        have e := hG.out
        rw [patchGo_end] at e
        have HE := Lib.hid e
        clear hG e
        go_wp2_with fail
        go_ret2
        exact ⟨by rw [HE.out]; rfl, hc⟩
end Go.Proofs.YtjiaidchcldocaaGreatDoor
namespace Go.Proofs.YtjiaidchcldocaaGreatDoor

/-! ### the loop -/
/-- what is read from a place on, behind what has been read -/
def ChgsInv (l : List (List UInt8)) (at_ : Nat) (L : List Change) : Prop := ∃ k, (l.drop at_).length ≤ k ∧ (changesG k (l.drop at_)).map (L ++ ·) = changesG l.length l
theorem cinv_start (l : List (List UInt8)) : ChgsInv l 0 [] := ⟨l.length, by simp, by simp⟩
theorem cinv_end {l : List (List UInt8)} {i : Nat} {L : List Change} (h : ChgsInv l i L) (hi : l.length ≤ i) : changesG l.length l = some L := by
  obtain ⟨k, _, h⟩ := h
  rw [List.drop_of_length_le hi, changesG] at h
  rw [← h]; simp
theorem cinv_one {l : List (List UInt8)} {i : Nat} {L : List Change} (h : ChgsInv l i L) (hi : i + 1 = l.length) : changesG l.length l = none := by
  obtain ⟨k, hk, h⟩ := h
  have hx : (l.drop i).length = 1 := by rw [List.length_drop]; omega
  obtain ⟨x, hx⟩ := List.length_eq_one_iff.1 hx
  rw [hx] at h hk
  obtain ⟨k, rfl⟩ : ∃ j, k = j + 1 := ⟨k - 1, by simp at hk; omega⟩
  rw [← h, changesG]; rfl
theorem cinv_head {l : List (List UInt8)} {i : Nat} {L : List Change} (h : ChgsInv l i L) {a b : List UInt8} {r : List (List UInt8)} (hd : l.drop i = a :: b :: r) (hh : headedL a b = none) : changesG l.length l = none := by
  obtain ⟨k, hk, h⟩ := h
  rw [hd] at h hk
  obtain ⟨k, rfl⟩ : ∃ j, k = j + 1 := ⟨k - 1, by simp at hk; omega⟩
  rw [← h, changesG, hh]; rfl
theorem cinv_take {l : List (List UInt8)} {i : Nat} {L : List Change} (h : ChgsInv l i L) {a b : List UInt8} {r : List (List UInt8)} (hd : l.drop i = a :: b :: r) {w : Int} {p : List UInt8} (hh : headedL a b = some (w, p)) (ht : takeU r [] 0 0 = none) : changesG l.length l = none := by
  obtain ⟨k, hk, h⟩ := h
  rw [hd] at h hk
  obtain ⟨k, rfl⟩ : ∃ j, k = j + 1 := ⟨k - 1, by simp at hk; omega⟩
  rw [← h, changesG, hh]
  simp only
  rw [ht]; rfl
theorem cinv_step {l : List (List UInt8)} {i j : Nat} {L : List Change} (h : ChgsInv l i L) {a b : List UInt8} {r : List (List UInt8)} (hd : l.drop i = a :: b :: r) {w : Int} {p : List UInt8} (hh : headedL a b = some (w, p)) {hs : List Hunk} (ht : takeU r [] 0 0 = some (hs, l.drop j)) (hj : i + 2 ≤ j) : ChgsInv l j (L ++ [⟨w, toB p, hs⟩]) := by
  obtain ⟨k, hk, h⟩ := h
  have hl : (l.drop i).length = r.length + 2 := by rw [hd]; rfl
  rw [hd] at h hk
  obtain ⟨k, rfl⟩ : ∃ j, k = j + 1 := ⟨k - 1, by simp at hk; omega⟩
  refine ⟨k, ?_, ?_⟩
  · rw [List.length_drop] at hl ⊢
    simp at hk
    omega
  · rw [← h, changesG, hh]
    simp only
    rw [ht]
    simp only
    cases changesG k (l.drop j) with
    | none => rfl
    | some q => simp
theorem parseG_none {s : List UInt8} (h : changesG (parts 10 s).dropLast.length (parts 10 s).dropLast = none) : parseG s = ([], 5) := by
  unfold parseG
  by_cases hl : 400000 < s.length
  · rw [if_pos hl]
  · rw [if_neg hl, h]
theorem parseG_some {s : List UInt8} {p : List Change} (hl : s.length ≤ 400000) (h : changesG (parts 10 s).dropLast.length (parts 10 s).dropLast = some p) (hx : (parts 10 s).getLast? = some []) : parseG s = if (patchFault p).2 ≠ 0 then ([], (patchFault p).2) else (p, 0) := by
  unfold parseG
  rw [if_neg (by omega), h]
  simp only
  rw [if_neg (by simpa using hx)]
theorem parseG_last {s : List UInt8} (hx : (parts 10 s).getLast? ≠ some []) : parseG s = ([], 5) := by
  unfold parseG
  by_cases hl : 400000 < s.length
  · rw [if_pos hl]
  · rw [if_neg hl]
    cases changesG (parts 10 s).dropLast.length (parts 10 s).dropLast with
    | none => rfl
    | some p => simp only; rw [if_pos hx]
end Go.Proofs.YtjiaidchcldocaaGreatDoor
namespace Go.Proofs.YtjiaidchcldocaaGreatDoor
open Go.RowKit

/-- two lines, as the program reads them -/
theorem headed_tests (a b : List UInt8) : ∃ (p1 p2 p3 p4 : Bool) (a1 b1 f t : List UInt8), Lib.hasPrefix a mmL = p1 ∧ Lib.trimPrefix a mmL = a1 ∧ Lib.hasPrefix b ppL = p2 ∧ Lib.trimPrefix b ppL = b1 ∧
    Lib.hasPrefix a1 [97, 47] = p3 ∧ Lib.trimPrefix a1 [97, 47] = f ∧ Lib.hasPrefix b1 [98, 47] = p4 ∧ Lib.trimPrefix b1 [98, 47] = t ∧
    (p3 = true → a1 ≠ noneL) ∧ (p4 = true → b1 ≠ noneL) ∧ f.length ≤ a.length ∧ t.length ≤ b.length ∧
    headedL a b = if p1 = false ∨ p2 = false then none else if p3 = true ∧ p4 = true ∧ f = t then some (1, f) else if a1 = noneL ∧ p4 = true then some (2, t) else if p3 = true ∧ b1 = noneL then some (3, f) else none := by
  have tl : ∀ x p : List UInt8, (Lib.trimPrefix x p).length ≤ x.length := fun x p => by
    unfold Lib.trimPrefix; split
    · rw [List.length_drop]; omega
    · exact Nat.le_refl _
  have hn : ∀ (x : List UInt8), Lib.hasPrefix x [97, 47] = true → x ≠ noneL := fun x h e => by rw [e] at h; exact absurd h (by decide)
  have hm : ∀ (x : List UInt8), Lib.hasPrefix x [98, 47] = true → x ≠ noneL := fun x h e => by rw [e] at h; exact absurd h (by decide)
  refine ⟨_, _, _, _, _, _, _, _, rfl, rfl, rfl, rfl, rfl, rfl, rfl, rfl, hn _, hm _, Nat.le_trans (tl _ _) (tl _ _), Nat.le_trans (tl _ _) (tl _ _), ?_⟩
  unfold headedL
  rcases lib_pre a mmL with ⟨h1, h2, h3⟩ | ⟨x, h1, h2, h3⟩
  · rw [h1, h2, if_pos (.inl rfl)]
  · rcases lib_pre b ppL with ⟨g1, g2, g3⟩ | ⟨y, g1, g2, g3⟩
    · rw [h1, g1, g2, if_pos (.inr rfl)]
    · rw [h1, h2, h3, g1, g2, g3, if_neg (by simp)]
      simp only
      unfold headedR
      rcases lib_pre x [97, 47] with ⟨k1, k2, k3⟩ | ⟨f, k1, k2, k3⟩
      · rcases lib_pre y [98, 47] with ⟨j1, j2, j3⟩ | ⟨t, j1, j2, j3⟩
        · rw [k1, j1, k2, j2]; simp
        · rw [k1, j1, k2, j2, j3]; simp
      · have q := hn x k2
        rcases lib_pre y [98, 47] with ⟨j1, j2, j3⟩ | ⟨t, j1, j2, j3⟩
        · rw [k1, j1, k2, j2, k3]; simp
        · have q2 := hm y j2
          rw [k1, j1, k2, j2, k3, j3]; simp [q, q2]
def HeadPost (a b : List UInt8) (w : World) (e : Ending) (w' : World) : Prop :=
  Chg Never w w' ∧ match headedL a b with
  | none => e = .returned (.tuple #[.agg #[.int .i64 0, .string ⟨#[]⟩, .slice none 0 0], .bool false])
  | some (k, p) => e = .returned (.tuple #[.agg #[.int .i64 k, .string (toB p), .slice none 0 0], .bool true])
theorem headPost_no {a b : List UInt8} {w w' : World} {e : Ending} (h : headedL a b = none) (hc : Chg Never w w') (he : e = .returned (.tuple #[.agg #[.int .i64 0, .string ⟨#[]⟩, .slice none 0 0], .bool false])) : HeadPost a b w e w' := ⟨hc, by rw [h]; exact he⟩
theorem headPost_yes {a b p : List UInt8} {k : Int} {w w' : World} {e : Ending} (h : headedL a b = some (k, p)) (hc : Chg Never w w') (he : e = .returned (.tuple #[.agg #[.int .i64 k, .string (toB p), .slice none 0 0], .bool true])) : HeadPost a b w e w' := ⟨hc, by rw [h]; exact he⟩
theorem str_eq_iff (x y : List UInt8) : ((toB x).toList == (toB y).toList) = decide (x = y) := by
  rw [Lib.toList_data, Lib.toList_data, toB_data, toB_data]
  by_cases h : x = y <;> simp [h]
theorem str_eq_lit (x y : List UInt8) : ((toB x).toList == y) = decide (x = y) := by
  rw [Lib.toList_data, toB_data]
  by_cases h : x = y <;> simp [h]

set_option maxHeartbeats 2000000 in
set_option maxRecDepth 100000 in
theorem headed_any (a b : ByteArray) (w : World) (_ha : a.size ≤ 1000000000) (_hb : b.size ≤ 1000000000) :
    Calls Tryz.prog 119 #[.string a, .string b] w (HeadPost a.data.toList b.data.toList w) := by
  obtain ⟨p1, p2, p3, p4, a1, b1', f, t, e1, e2, e3, e4, e5, e6, e7, e8, q1, q2, -, -, hh⟩ := headed_tests a.data.toList b.data.toList
  have HH := Lib.hid hh
  have E1 := Lib.hid e1
  have E2 := Lib.hid e2
  have E3 := Lib.hid e3
  have E4 := Lib.hid e4
  have E5 := Lib.hid e5
  have E6 := Lib.hid e6
  have E7 := Lib.hid e7
  have E8 := Lib.hid e8
  have hA0 : Chg Never w (w.alloc (.cells #[.int .i64 0, .string ⟨#[]⟩, .slice none 0 0] 85)) := (Chg.refl Never w).alloc _
  have hB0 := Blk3.new w 85 (.int .i64 0) (.string ⟨#[]⟩) (.slice none 0 0)
  clear e1 e2 e3 e4 e5 e6 e7 e8 hh
  go_enter Tryz.func119, Tryz.ntmps119
  go_wp2_with fail
  obtain ⟨w0, hw0⟩ : ∃ w0, w.alloc (.cells #[.int .i64 0, .string ⟨#[]⟩, .slice none 0 0] 85) = w0 := ⟨_, rfl⟩
  obtain ⟨wb, hwbe⟩ : ∃ wb, w.heap.size = wb := ⟨_, rfl⟩
  have hwb : w.heap.size ≤ wb := Nat.le_of_eq hwbe
  rw [hw0] at hA0 hB0 ⊢
  rw [hwbe] at hB0 ⊢
  clear hw0 hwbe
  refine (Tryz.strings_CutPrefix a (toB mmL) _).mono ?_
  rintro e w1 ⟨rfl, rfl⟩
  rename World => w0
  rw [toB_data, E1.out, E2.out, show (⟨a1.toArray⟩ : ByteArray) = toB a1 from rfl]
  go_wp2_with fail
  refine (Tryz.strings_CutPrefix b (toB ppL) _).mono ?_
  rintro e w1 ⟨rfl, rfl⟩
  rename World => w0
  rw [toB_data, E3.out, E4.out, show (⟨b1'.toArray⟩ : ByteArray) = toB b1' from rfl]
  go_wp2_with fail
  refine (Tryz.strings_CutPrefix (toB a1) (toB [97, 47]) _).mono ?_
  rintro e w1 ⟨rfl, rfl⟩
  rename World => w0
  rw [toB_data, toB_data, E5.out, E6.out, show (⟨f.toArray⟩ : ByteArray) = toB f from rfl]
  go_wp2_with fail
  refine (Tryz.strings_CutPrefix (toB b1') (toB [98, 47]) _).mono ?_
  rintro e w1 ⟨rfl, rfl⟩
  rename World => w0
  rw [toB_data, toB_data, E7.out, E8.out, show (⟨t.toArray⟩ : ByteArray) = toB t from rfl]
  have hA := hA0
  have hB := hB0
  obtain ⟨b0, b1, b2⟩ := hB.cell
  have f0 := hB.free 0
  have f1 := hB.free 1
  have f2 := hB.free 2
  have S0 := cell_put_eq b0
  have S1 := cell_put_eq b1
  have S2 := cell_put_eq b2
  clear hA0 hB0 E1 E2 E3 E4 E5 E6 E7 E8
  have eft := str_eq_iff f t
  have ean : ((toB a1).toList == [47, 100, 101, 118, 47, 110, 117, 108, 108]) = decide (a1 = noneL) := str_eq_lit a1 noneL
  have ebn : ((toB b1').toList == [47, 100, 101, 118, 47, 110, 117, 108, 108]) = decide (b1' = noneL) := str_eq_lit b1' noneL
  cases p1 with
  | false =>
    clear eft ean ebn q1 q2
    have hr : Hid (headedL a.data.toList b.data.toList = none) := by
      rw [Hid, HH.out]
      rw [if_pos (.inl rfl)]
    clear HH
    go_wp2_with fail
    refine bodyPost_ret (v := .tuple #[.agg #[.int .i64 0, .string ⟨#[]⟩, .slice none 0 0], .bool false]) (by simp [results, Tryz.results119, go_sem, b0, b1, b2]) rfl ?_
    exact headPost_no hr.out hA rfl
  | true =>
    cases p2 with
    | false =>
      clear eft ean ebn q1 q2
      have hr : Hid (headedL a.data.toList b.data.toList = none) := by
        rw [Hid, HH.out]
        rw [if_pos (.inr rfl)]
      clear HH
      go_wp2_with fail
      refine bodyPost_ret (v := .tuple #[.agg #[.int .i64 0, .string ⟨#[]⟩, .slice none 0 0], .bool false]) (by simp [results, Tryz.results119, go_sem, b0, b1, b2]) rfl ?_
      exact headPost_no hr.out hA rfl
    | true =>
      have HH : Hid (headedL a.data.toList b.data.toList = if p3 = true ∧ p4 = true ∧ f = t then some (1, f) else if a1 = noneL ∧ p4 = true then some (2, t) else if p3 = true ∧ b1' = noneL then some (3, f) else none) := by
        have := HH.out
        rw [if_neg (by simp)] at this
        exact this
      cases p3 with
      | true =>
        rw [decide_eq_false (q1 rfl)] at ean
        have nA := Lib.hid (q1 rfl)
        cases p4 with
        | true =>
          rw [decide_eq_false (q2 rfl)] at ebn
          have nB := Lib.hid (q2 rfl)
          by_cases h : f = t
          · rw [decide_eq_true h] at eft
            have HFT := Lib.hid h
            clear q1 q2 h
            have hr : Hid (headedL a.data.toList b.data.toList = some (1, f)) := by
              rw [Hid, HH.out]
              rw [if_pos ⟨rfl, rfl, HFT.out⟩]
            have hBF := ((hB.set0 (.int .i64 1)).set1 (.string (toB f))).set2 (.slice none 0 0)
            have hCF := ((hA.setCell (p := ⟨wb, 0, none⟩) (.inl hwb) (.int .i64 1)).setCell (p := ⟨wb, 1, none⟩) (.inl hwb) (.string (toB f))).setCell (p := ⟨wb, 2, none⟩) (.inl hwb) (.slice none 0 0)
            clear HH S0 S1 S2
            go_wp2_with fail
            obtain ⟨d0, d1, d2⟩ := hBF.cell
            refine bodyPost_ret (v := .tuple #[.agg #[.int .i64 1, .string (toB f), .slice none 0 0], .bool true]) (by simp [results, Tryz.results119, go_sem, d0, d1, d2]) rfl ?_
            exact headPost_yes hr.out hCF rfl
          · rw [decide_eq_false h] at eft
            have HFT := Lib.hid h
            clear q1 q2 h
            have hr : Hid (headedL a.data.toList b.data.toList = none) := by
              rw [Hid, HH.out]
              rw [if_neg (fun q => HFT.out q.2.2), if_neg (fun q => nA.out q.1), if_neg (fun q => nB.out q.2)]
            clear HH
            go_wp2_with fail
            refine bodyPost_ret (v := .tuple #[.agg #[.int .i64 0, .string ⟨#[]⟩, .slice none 0 0], .bool false]) (by simp [results, Tryz.results119, go_sem, b0, b1, b2]) rfl ?_
            exact headPost_no hr.out hA rfl
        | false =>
          by_cases h : b1' = noneL
          · rw [decide_eq_true h] at ebn
            have HFT := Lib.hid h
            clear q1 q2 h
            have hr : Hid (headedL a.data.toList b.data.toList = some (3, f)) := by
              rw [Hid, HH.out]
              rw [if_neg (by simp), if_neg (by simp), if_pos ⟨rfl, HFT.out⟩]
            have hBF := ((hB.set0 (.int .i64 3)).set1 (.string (toB f))).set2 (.slice none 0 0)
            have hCF := ((hA.setCell (p := ⟨wb, 0, none⟩) (.inl hwb) (.int .i64 3)).setCell (p := ⟨wb, 1, none⟩) (.inl hwb) (.string (toB f))).setCell (p := ⟨wb, 2, none⟩) (.inl hwb) (.slice none 0 0)
            clear HH S0 S1 S2
            go_wp2_with fail
            obtain ⟨d0, d1, d2⟩ := hBF.cell
            refine bodyPost_ret (v := .tuple #[.agg #[.int .i64 3, .string (toB f), .slice none 0 0], .bool true]) (by simp [results, Tryz.results119, go_sem, d0, d1, d2]) rfl ?_
            exact headPost_yes hr.out hCF rfl
          · rw [decide_eq_false h] at ebn
            have HFT := Lib.hid h
            clear q1 q2 h
            have hr : Hid (headedL a.data.toList b.data.toList = none) := by
              rw [Hid, HH.out]
              rw [if_neg (by simp), if_neg (by simp), if_neg (fun q => HFT.out q.2)]
            clear HH
            go_wp2_with fail
            refine bodyPost_ret (v := .tuple #[.agg #[.int .i64 0, .string ⟨#[]⟩, .slice none 0 0], .bool false]) (by simp [results, Tryz.results119, go_sem, b0, b1, b2]) rfl ?_
            exact headPost_no hr.out hA rfl
      | false =>
        by_cases h : a1 = noneL
        · rw [decide_eq_true h] at ean
          have HFT := Lib.hid h
          clear q1 q2 h
          cases p4 with
          | true =>
            have hr : Hid (headedL a.data.toList b.data.toList = some (2, t)) := by
              rw [Hid, HH.out]
              rw [if_neg (by simp), if_pos ⟨HFT.out, rfl⟩]
            have hBF := ((hB.set0 (.int .i64 2)).set1 (.string (toB t))).set2 (.slice none 0 0)
            have hCF := ((hA.setCell (p := ⟨wb, 0, none⟩) (.inl hwb) (.int .i64 2)).setCell (p := ⟨wb, 1, none⟩) (.inl hwb) (.string (toB t))).setCell (p := ⟨wb, 2, none⟩) (.inl hwb) (.slice none 0 0)
            clear HH S0 S1 S2
            go_wp2_with fail
            obtain ⟨d0, d1, d2⟩ := hBF.cell
            refine bodyPost_ret (v := .tuple #[.agg #[.int .i64 2, .string (toB t), .slice none 0 0], .bool true]) (by simp [results, Tryz.results119, go_sem, d0, d1, d2]) rfl ?_
            exact headPost_yes hr.out hCF rfl
          | false =>
            have hr : Hid (headedL a.data.toList b.data.toList = none) := by
              rw [Hid, HH.out]
              rw [if_neg (by simp), if_neg (by simp), if_neg (by simp)]
            clear HH
            go_wp2_with fail
            refine bodyPost_ret (v := .tuple #[.agg #[.int .i64 0, .string ⟨#[]⟩, .slice none 0 0], .bool false]) (by simp [results, Tryz.results119, go_sem, b0, b1, b2]) rfl ?_
            exact headPost_no hr.out hA rfl
        · rw [decide_eq_false h] at ean
          have HFT := Lib.hid h
          clear q1 q2 h
          cases p4 with
          | true =>
            have hr : Hid (headedL a.data.toList b.data.toList = none) := by
              rw [Hid, HH.out]
              rw [if_neg (by simp), if_neg (fun q => HFT.out q.1), if_neg (by simp)]
            clear HH
            go_wp2_with fail
            refine bodyPost_ret (v := .tuple #[.agg #[.int .i64 0, .string ⟨#[]⟩, .slice none 0 0], .bool false]) (by simp [results, Tryz.results119, go_sem, b0, b1, b2]) rfl ?_
            exact headPost_no hr.out hA rfl
          | false =>
            have hr : Hid (headedL a.data.toList b.data.toList = none) := by
              rw [Hid, HH.out]
              rw [if_neg (by simp), if_neg (by simp), if_neg (by simp)]
            clear HH
            go_wp2_with fail
            refine bodyPost_ret (v := .tuple #[.agg #[.int .i64 0, .string ⟨#[]⟩, .slice none 0 0], .bool false]) (by simp [results, Tryz.results119, go_sem, b0, b1, b2]) rfl ?_
            exact headPost_no hr.out hA rfl
end Go.Proofs.YtjiaidchcldocaaGreatDoor
namespace Go.Proofs.YtjiaidchcldocaaGreatDoor

theorem spanOf_lt {s : List UInt8} {a : Int} {x : Nat} (h : spanOf s = some (a, x)) : x < 1000 := by
  unfold spanOf at h
  cases hc : cutSub [44] s with
  | none => rw [hc] at h; cases h
  | some p =>
    obtain ⟨u, v⟩ := p
    rw [hc] at h
    simp only at h
    cases hu : numOf u with
    | none => rw [hu] at h; cases h
    | some y =>
      cases hv : numOf v with
      | none => rw [hu, hv] at h; cases h
      | some z =>
        have := numOf_lt hv
        rw [hu, hv] at h
        simp only at h
        split at h
        · split at h
          · cases h
          · injection h with h; injection h with _ h; omega
        · injection h with h; injection h with _ h; omega
theorem headOf_lt {s : List UInt8} {a b : Int} {x y : Nat} (h : headOf s = some (a, x, b, y)) : x < 1000 ∧ y < 1000 := by
  unfold headOf at h
  cases h1 : dropPre atAt s with
  | none => rw [h1] at h; cases h
  | some r =>
    rw [h1] at h
    simp only at h
    cases h2 : dropSuf endAt r with
    | none => rw [h2] at h; cases h
    | some m =>
      rw [h2] at h
      simp only at h
      cases h3 : cutSub [32, 43] m with
      | none => rw [h3] at h; cases h
      | some p =>
        obtain ⟨u, v⟩ := p
        rw [h3] at h
        simp only at h
        cases h4 : spanOf u with
        | none => rw [h4] at h; cases h
        | some p =>
          obtain ⟨a', x'⟩ := p
          rw [h4] at h
          simp only at h
          cases h5 : spanOf v with
          | none => rw [h5] at h; cases h
          | some p =>
            obtain ⟨b', y'⟩ := p
            rw [h5] at h
            simp only [Option.some.injEq, Prod.mk.injEq] at h
            obtain ⟨-, rfl, -, rfl⟩ := h
            exact ⟨spanOf_lt h4, spanOf_lt h5⟩
theorem addMark_len : ∀ (hs : List Hunk) (m : Mark), (addMark hs m).length = hs.length
  | [], _ => rfl
  | [_], _ => rfl
  | h :: k :: r, m => by
    show (h :: addMark (k :: r) m).length = _
    rw [List.length_cons, addMark_len (k :: r) m]; rfl
theorem addMark_marks : ∀ (hs : List Hunk) (m : Mark) (j : Nat), (∀ h ∈ hs, h.marks.length ≤ j) → ∀ h ∈ addMark hs m, h.marks.length ≤ j + 1
  | [], _, _, _, _, hh => by cases hh
  | [h], m, j, hb, x, hx => by
    have := hb h (List.mem_cons_self ..)
    simp only [addMark, List.mem_cons, List.not_mem_nil, or_false] at hx
    subst hx
    simp only [List.length_append, List.length_cons, List.length_nil]
    omega
  | h :: k :: r, m, j, hb, x, hx => by
    rcases List.mem_cons.1 (show x ∈ h :: addMark (k :: r) m from hx) with rfl | hx
    · have := hb x (List.mem_cons_self ..); omega
    · exact addMark_marks (k :: r) m j (fun y hy => hb y (List.mem_cons_of_mem _ hy)) x hx
/-- what a reader holds behind j lines -/
structure RdB (hs : List Hunk) (o n j : Nat) : Prop where
  ok : RdOk hs o n
  len : hs.length ≤ j
  marks : ∀ h ∈ hs, h.marks.length ≤ j
  on : o < 1000 ∧ n < 1000
theorem rdB_start : RdB [] 0 0 0 := ⟨rdOk_start, Nat.le_refl _, fun _ h => (by cases h), by decide, by decide⟩
theorem rdB_step {hs hs' : List Hunk} {o n o' n' j : Nat} {s : List UInt8} (h : RdB hs o n j) (hr : readLine hs o n s = some (hs', o', n')) : RdB hs' o' n' (j + 1) := by
  have hok := readLine_ok h.ok hr
  refine ⟨fun _ => hok, ?_, ?_, ?_⟩
  all_goals
    have hl := h.len
    have hm := h.marks
    have hon := h.on
    unfold readLine at hr
    by_cases q : 0 < o ∨ 0 < n
    · rw [if_pos q] at hr
      cases s with
      | nil => cases hr
      | cons c r =>
        simp only at hr
        split at hr
        · injection hr with hr; injection hr with h1 h2; injection h2 with h2 h3; subst h1; subst h2; subst h3
          first | (rw [addMark_len]; omega) | exact addMark_marks _ _ _ hm | (constructor <;> omega)
        · split at hr
          · injection hr with hr; injection hr with h1 h2; injection h2 with h2 h3; subst h1; subst h2; subst h3
            first | (rw [addMark_len]; omega) | exact addMark_marks _ _ _ hm | (constructor <;> omega)
          · split at hr
            · injection hr with hr; injection hr with h1 h2; injection h2 with h2 h3; subst h1; subst h2; subst h3
              first | (rw [addMark_len]; omega) | exact addMark_marks _ _ _ hm | (constructor <;> omega)
            · cases hr
    · rw [if_neg q] at hr
      cases hd : headOf s with
      | none => rw [hd] at hr; cases hr
      | some p =>
        obtain ⟨a, x, b, y⟩ := p
        have hxy := headOf_lt hd
        rw [hd] at hr
        simp only [Option.some.injEq, Prod.mk.injEq] at hr
        obtain ⟨rfl, rfl, rfl⟩ := hr
        first
          | (rw [List.length_append]; simp only [List.length_cons, List.length_nil]; omega)
          | exact hxy
          | (intro k hk
             rcases List.mem_append.1 hk with hk | hk
             · have := hm k hk; omega
             · simp only [List.mem_cons, List.not_mem_nil, or_false] at hk
               subst hk
               exact Nat.zero_le _)
/-- the hunks of a change: what is read from here on is what was read from the start -/
structure TakeInv (R l : List (List UInt8)) (hs : List Hunk) (o n : Nat) : Prop where
  take : takeU l hs o n = takeU R [] 0 0
theorem tinv_start (R : List (List UInt8)) : TakeInv R R [] 0 0 := ⟨rfl⟩
theorem tinv_step {R l : List (List UInt8)} {hs hs' : List Hunk} {o n o' n' : Nat} {s : List UInt8} (h : TakeInv R (s :: l) hs o n) (hc : (0 < o ∨ 0 < n) ∨ hunkHead s = true) (hr : readLine hs o n s = some (hs', o', n')) : TakeInv R l hs' o' n' :=
  ⟨by rw [← h.take, take_cons hc hr]⟩
theorem tinv_bad {R l : List (List UInt8)} {hs : List Hunk} {o n : Nat} {s : List UInt8} (h : TakeInv R (s :: l) hs o n) (hc : (0 < o ∨ 0 < n) ∨ hunkHead s = true) (hr : readLine hs o n s = none) : takeU R [] 0 0 = none := by
  rw [← h.take, takeU, if_pos hc, hr]
theorem tinv_open {R : List (List UInt8)} {hs : List Hunk} {o n : Nat} (h : TakeInv R [] hs o n) (hc : 0 < o ∨ 0 < n) : takeU R [] 0 0 = none := by
  rw [← h.take, takeU, if_pos hc]
theorem tinv_end {R l : List (List UInt8)} {hs : List Hunk} {o n : Nat} (h : TakeInv R l hs o n) (hc : ¬ (0 < o ∨ 0 < n)) (hl : ∀ s r, l = s :: r → hunkHead s = false) : takeU R [] 0 0 = some (hs, l) := by
  rw [← h.take]
  cases l with
  | nil => rw [takeU, if_neg hc]
  | cons s r => rw [takeU, if_neg (fun q => q.elim hc (fun q => by rw [hl s r rfl] at q; cases q))]
end Go.Proofs.YtjiaidchcldocaaGreatDoor
namespace Go.Proofs.YtjiaidchcldocaaGreatDoor
open Go.RowKit

/-- 's[i:j]' as a run, at whatever element type -/
theorem slice_g {P : Program} {t : TypeId} (ht : P.underlying t = some (.slice (P.elem t))) {α : Type} [Dat α] (hsz : ∀ w, (sizeOf (P.elem t)).run P w = .ok (Dat.n α) w) {w0 : World} {O : Nat → Prop} {a : Option Addr} {cap : Nat} {l : List α} (h : Rdv w0 O (.slice a l.length cap) l) (i j : Nat) (hij : i ≤ j) (hj : j ≤ l.length) :
    ∃ b, (∀ (x y : Int) (w : World), x = i → y = j → (Instr.slice t (.slice a l.length cap) (some (.int .i64 x)) (some (.int .i64 y)) none).run P w = .ok (.slice b (j - i) (cap - i)) w) ∧
      (∀ (x : Int) (w : World), x = i → j = l.length → (Instr.slice t (.slice a l.length cap) (some (.int .i64 x)) none none).run P w = .ok (.slice b (j - i) (cap - i)) w) ∧
      (∀ (y : Int) (w : World), i = 0 → y = j → (Instr.slice t (.slice a l.length cap) none (some (.int .i64 y)) none).run P w = .ok (.slice b (j - i) (cap - i)) w) ∧
      Rdv w0 O (.slice b (j - i) (cap - i)) ((l.drop i).take (j - i)) := by
  have hr := rdv_sliced h i j hij hj
  obtain ⟨b, hb⟩ := sliced_isSlice a i j cap (Dat.n α)
  obtain ⟨a', cap', e, h1, h2, h3⟩ := rdv_slice h
  simp only [Value.slice.injEq, true_and] at e
  obtain ⟨rfl, rfl⟩ := e
  refine ⟨b, ?_, ?_, ?_, hb ▸ hr⟩
  · rintro x y w rfl rfl
    rw [run_slice_lh w t a l.length cap ht .i64 .i64 _ _ (by omega) (by omega) (by omega), hsz]
    simp only [Result.andThen_ok, Int.toNat_natCast]
    rw [hb]
  · rintro x w rfl rfl
    rw [run_slice_l w t a l.length cap ht .i64 _ (by omega) (by omega), hsz]
    simp only [Result.andThen_ok, Int.toNat_natCast]
    rw [hb]
  · rintro y w rfl rfl
    rw [run_slice_h w t a l.length cap ht .i64 _ (by omega) (by omega), hsz]
    simp only [Result.andThen_ok, Int.toNat_natCast]
    rw [hb]
end Go.Proofs.YtjiaidchcldocaaGreatDoor
namespace Go.Proofs.YtjiaidchcldocaaGreatDoor
open Go.RowKit

theorem run_many2 {P : Program} {α : Type} [Dat α] {t ty e : TypeId} (hP : ElemOk P t e (Dat.n α)) {w0 : World} {O : Nat → Prop} {v x : Value} {l m : List α}
    (hown : Own e w0 O v l) (hx : Rdv w0 (fun k => O k ∨ v.ownBlock = some k) x m) (hO : ∀ k, O k → k < w0.heap.size) (hlen : l.length + m.length ≤ 1000000000) :
    ∃ v' w', (Builtin.append_ #[t, t] ty #[v, x]).run P w0 = .ok v' w' ∧ Own e w' O v' (l ++ m) ∧ Chg (OwnB v) w0 w' ∧ (∀ k, v'.ownBlock = some k → v.ownBlock = some k ∨ w0.heap.size ≤ k) := by
  obtain ⟨a, cap, rfl, c1, c2, hel⟩ := rdv_slice hx
  rcases Nat.eq_zero_or_pos m.length with h0 | hpos
  · have : m = [] := List.eq_nil_of_length_eq_zero h0
    subst this
    refine ⟨v, w0, ?_, by rw [List.append_nil]; exact hown, Chg.refl _ _, fun k hk => .inl hk⟩
    obtain ⟨xs, hrow, _⟩ := hown
    exact run_append_empty hP hrow a cap
  · obtain ⟨b, off, rfl⟩ : ∃ b off, a = some ⟨b, off, none⟩ := by
      obtain ⟨b, off, es, ha, _⟩ := hel 0 m[0] (by simp [hpos])
      exact ⟨b, off, ha⟩
    obtain ⟨i, z, hi, hz, hsz, hzs, hby⟩ := hP.info
    obtain ⟨xs, hrow, hb, hels⟩ := id hown
    obtain ⟨news, n1, n2, n3, n4⟩ := elems_cells hel m.length (Nat.le_refl _)
    have hpos' := Dat.pos (α := α)
    have hcells : ∀ j u, news[j]? = some u → w0.cell? ((⟨b, off, none⟩ : Addr).add j) = some u := by
      intro j u hj
      have e1 : (⟨b, off, none⟩ : Addr).add j = ⟨b, off + j, none⟩ := by unfold Addr.add; split <;> simp_all
      rw [e1]
      exact n2 j u hj
    have hbound : (l.length + m.length) * i.bytes ≤ 140737488355328 := by
      have := Nat.mul_le_mul hlen hby
      omega
    obtain ⟨v', w', hrun, hown', hgrow, hnil⟩ := run_append_own (P := P) w0 0 t ty e i z (Dat.n α) i.bytes hP.ht hi hz hsz rfl hzs hpos' v l.length xs hrow
      ⟨b, off, none⟩ m.length cap news n1 hcells n3 (by unfold maxLen; omega) hbound (Nat.zero_le _)
    obtain ⟨kb, hkb, hkb'⟩ := append_block (P := P) w0 0 t ty e i z (Dat.n α) i.bytes hP.ht hi hz hsz rfl v l.length xs hrow
      ⟨b, off, none⟩ m.length cap news n1 hcells n3 (by unfold maxLen; omega) hbound (by omega) hrun
    have hc : Chg (OwnB v) w0 w' := Chg.of_grown hgrow
    have hsub : ∀ k, k < w0.heap.size → (O k ∨ v'.ownBlock = some k) → (O k ∨ v.ownBlock = some k) := by
      rintro k hk (h | h)
      · exact .inl h
      · rw [hkb] at h
        injection h with h
        subst h
        rcases hkb' with h | h
        · exact .inr h
        · omega
    refine ⟨v', w', hrun, ⟨xs ++ news, ?_, ?_, ?_⟩, hc, fun k hk => by rw [hkb] at hk; injection hk with hk; subst hk; exact hkb'.imp_right (fun h => Nat.le_of_eq h.symm)⟩
    · rw [List.length_append]; exact hown'
    · intro k hk ho
      rw [hkb] at hk
      injection hk with hk
      subst hk
      rcases hkb' with h | h
      · exact hb _ h ho
      · exact absurd (hO _ ho) (by omega)
    · intro j y hj
      have hxl : xs.length = l.length * Dat.n α := hrow.1
      rcases Nat.lt_or_ge j l.length with hjl | hjl
      · rw [List.getElem?_append_left hjl] at hj
        have hle : j * Dat.n α + Dat.n α ≤ xs.length := by rw [hxl, ← Nat.succ_mul]; exact Nat.mul_le_mul_right _ hjl
        rw [List.drop_append_of_le_length (by omega), List.take_append_of_le_length (by rw [List.length_drop]; omega)]
        exact Dat.keep (hels j y hj) hc (fun k _ hk => .inr hk) hsub
      · rw [List.getElem?_append_right hjl] at hj
        have hjm := (List.getElem?_eq_some_iff.1 hj).1
        have e1 : (xs ++ news).drop (j * Dat.n α) = news.drop ((j - l.length) * Dat.n α) := by
          have e2 : j * Dat.n α = xs.length + (j - l.length) * Dat.n α := by rw [hxl, ← Nat.add_mul]; congr 1; omega
          rw [e2, List.drop_append]
          simp
        rw [e1]
        exact Dat.keep (n4 _ y hjm hj) hc (fun k _ hk => .inr hk) hsub

theorem wpList_many2 {P : Program} {ops : Array Oper} {rest : List Oper} {o : Oper} {a : Act} {Q : Exit → Act → World → Prop} (hgd : o.guard = none) (s x : Operand) (t : TypeId)
    (ho : o.op = .call { callee := .builtin .append, args := #[s, x], argTypes := #[t, t] }) {α : Type} [Dat α] {e : TypeId} (hP : ElemOk P t e (Dat.n α)) {w0 : World} {O : Nat → Prop} {v u : Value} {l m : List α}
    (hs : a.eval s = v) (hx : a.eval x = u) (hown : Own e w0 O v l) (hu : Rdv w0 (fun k => O k ∨ v.ownBlock = some k) u m) (hO : ∀ k, O k → k < w0.heap.size) (hlen : l.length + m.length ≤ 1000000000)
    (h : ∀ v' w', Own e w' O v' (l ++ m) → Chg (OwnB v) w0 w' → (∀ k, v'.ownBlock = some k → v.ownBlock = some k ∨ w0.heap.size ≤ k) → wpList P ops Q rest (a.put o.dst v') w') :
    wpList P ops Q (o :: rest) a w0 := by
  refine wpList_plain hgd fun K hK => ?_
  obtain ⟨v', w', hrun, h1, h2, h3⟩ := run_many2 (ty := o.type) hP hown hu hO hlen
  unfold Oper.wp execOp
  simp only [ho, resolve, invoke, builtin, Sem.run_bind, Sem.run_pure, Result.andThen_ok, List.map_toArray, List.map_cons, List.map_nil, hs, hx, hrun]
  exact hK _ _ (h v' w' h1 h2 h3)

/-- v owns its row, which has come since w0; its elements may lie wherever -/
structure OwnN {α : Type} [Dat α] (e : TypeId) (w0 wr : World) (v : Value) (l : List α) : Prop where
  own : Own e wr Never v l
  new : ∀ k, v.ownBlock = some k → w0.heap.size ≤ k
  chg : Chg Never w0 wr
theorem ownN_nil {α : Type} [Dat α] (e : TypeId) {w0 wr : World} (h : Chg Never w0 wr) : OwnN e w0 wr (.slice none 0 0) ([] : List α) :=
  ⟨own_nil _ _ _, fun k hk => by simp [Value.ownBlock] at hk, h⟩
theorem OwnN.step {α : Type} [Dat α] {e : TypeId} {w0 wr w' : World} {v v' : Value} {l l' : List α} (h : OwnN e w0 wr v l) (hown : Own e w' Never v' l') (hc : Chg (OwnB v) wr w') (hk : ∀ k, v'.ownBlock = some k → v.ownBlock = some k ∨ wr.heap.size ≤ k) : OwnN e w0 w' v' l' :=
  ⟨hown, fun k hk' => (hk k hk').elim (h.new k) (fun hh => Nat.le_trans h.chg.size hh), h.chg.trans' hc (fun i hi hh => absurd (h.new i hh) (by omega))⟩
theorem OwnN.step1 {α : Type} [Dat α] {e : TypeId} {w0 wr w' : World} {v v' : Value} {l l' : List α} (h : OwnN e w0 wr v l) (hown : Own e w' Never v' l') (hc : Chg (OwnB v) wr w') (hk : ∃ k, v'.ownBlock = some k ∧ (v.ownBlock = some k ∨ wr.heap.size ≤ k)) : OwnN e w0 w' v' l' :=
  h.step hown hc (fun k hk' => by
    obtain ⟨j, h1, h2⟩ := hk
    rw [h1] at hk'
    injection hk' with hk'
    subst hk'
    exact h2)
theorem OwnN.never {α : Type} [Dat α] {e : TypeId} {w0 wr w' : World} {v : Value} {l : List α} (h : OwnN e w0 wr v l) (hc : Chg Never wr w') : OwnN e w0 w' v l := ⟨h.own.never hc, h.new, h.chg.trans hc⟩
/-- what was there at the beginning does not lie in the row -/
theorem OwnN.away {α β : Type} [Dat α] [Dat β] {e : TypeId} {w0 wr : World} {v u : Value} {l : List α} {x : β} (h : OwnN e w0 wr v l) (hu : Rdv w0 Never u x) : Rdv wr (fun k => Never k ∨ v.ownBlock = some k) u x :=
  (hu.sub (O' := fun k => Never k ∨ v.ownBlock = some k) (fun k hk hh => by
    rcases hh with hh | hh
    · exact hh
    · exact absurd (h.new k hh) (by omega))).never h.chg
end Go.Proofs.YtjiaidchcldocaaGreatDoor
namespace Go.Proofs.YtjiaidchcldocaaGreatDoor
open Go.RowKit

/-- what has come since does not lie in the row -/
theorem OwnN.fresh {α β : Type} [Dat α] [Dat β] {e : TypeId} {w0 wr w' : World} {v u : Value} {l : List α} {x : β} (h : OwnN e w0 wr v l) (hu : Rdv w' (Old wr.heap.size) u x) : Rdv w' (fun k => Never k ∨ v.ownBlock = some k) u x :=
  hu.sub (fun k _ hh => by
    rcases hh with hh | hh
    · exact hh.elim
    · exact own_block_lt h.own k hh)
/-- a row that this call has built by append: neither it nor what its elements hold lies in what was there at w0 -/
structure OwnO {α : Type} [Dat α] (e : TypeId) (w0 wr : World) (v : Value) (l : List α) : Prop where
  own : Own e wr (Old w0.heap.size) v l
  chg : Chg Never w0 wr
theorem ownO_nil {α : Type} [Dat α] (e : TypeId) {w0 wr : World} (h : Chg Never w0 wr) : OwnO e w0 wr (.slice none 0 0) ([] : List α) := ⟨own_nil _ _ _, h⟩
theorem OwnO.never {α : Type} [Dat α] {e : TypeId} {w0 wr w' : World} {v : Value} {l : List α} (h : OwnO e w0 wr v l) (hc : Chg Never wr w') : OwnO e w0 w' v l := ⟨h.own.never hc, h.chg.trans hc⟩
theorem OwnO.step1 {α : Type} [Dat α] {e : TypeId} {w0 wr w' : World} {v v' : Value} {l l' : List α} (h : OwnO e w0 wr v l) (hown : Own e w' (Old w0.heap.size) v' l') (hc : Chg (OwnB v) wr w') : OwnO e w0 w' v' l' := ⟨hown, own_step h.chg h.own hc⟩
theorem OwnO.fresh {α β : Type} [Dat α] [Dat β] {e : TypeId} {w0 wr w' : World} {v u : Value} {l : List α} {x : β} (h : OwnO e w0 wr v l) (hu : Rdv w' (Old wr.heap.size) u x) : Rdv w' (fun k => Old w0.heap.size k ∨ v.ownBlock = some k) u x :=
  hu.sub (fun k _ hh => by
    rcases hh with hh | hh
    · exact Nat.lt_of_lt_of_le hh h.chg.size
    · exact own_block_lt h.own k hh)
theorem OwnO.olds {α : Type} [Dat α] {e : TypeId} {w0 wr : World} {v : Value} {l : List α} (h : OwnO e w0 wr v l) : ∀ k, Old w0.heap.size k → k < wr.heap.size := fun _ hk => Nat.lt_of_lt_of_le hk h.chg.size
end Go.Proofs.YtjiaidchcldocaaGreatDoor
