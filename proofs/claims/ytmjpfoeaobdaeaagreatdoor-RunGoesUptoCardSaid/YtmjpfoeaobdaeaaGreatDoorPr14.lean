/-
  PARTS: THE WALKS of act's closure 'same' and of slices.EqualFunc by it.; THE WALK OF LAYER 2: Far.; THE WALK of (*session).act: drop, far, same.; THE WALK of patch.done: what a change does to what a path reads.; DOING A PATCH, step by step, in plain Lean.; THE WALK of slices.Delete of one file, in place: what is new stays new.
-/
import Derived.Test.YtmjpfoeaobdaeaaGreatDoorPr6
import Derived.Test.YtmjpfoeaobdaeaaGreatDoorPr7
import Derived.Test.YtmjpfoeaobdaeaaGreatDoorPr3
import Derived.Test.YtmjpfoeaobdaeaaGreatDoorPr13
import Derived.Test.YtmjpfoeaobdaeaaGreatDoorPr8
import Derived.Test.YtmjpfoeaobdaeaaGreatDoorPr11
import Derived.BigQuiet
import Derived.Test.YtmjpfoeaobdaeaaGreatDoorPr9
import Derived.Test.YtmjpfoeaobdaeaaGreatDoorPr2
import Derived.Deep.RegionHeld3
set_option linter.unusedVariables false
set_option linter.unusedSimpArgs false
namespace Go.Proofs.YtmjpfoeaobdaeaaGreatDoor
open Go.RowKit

theorem box_file (w : World) (T : TypeId) (p : ByteArray) (v : Value) (W : World) (hW : W = w.alloc (.cells #[.string p, v] T)) : Chg Never w W ∧ W.cell? ⟨w.heap.size, 0, none⟩ = some (.string p) ∧ W.cell? ⟨w.heap.size, 1, none⟩ = some v := by
  have n := heap_alloc_new w (.cells #[.string p, v] T)
  subst hW
  refine ⟨(Chg.refl Never w).alloc _, ?_, ?_⟩
  · simp only [World.cell?, n]; rfl
  · simp only [World.cell?, n]; rfl
set_option maxHeartbeats 2000000 in
set_option maxRecDepth 100000 in
theorem feq_any (f g : File) (fv gv : Value) (w : World) (hf : Rdv w Never fv f.lines) (hg : Rdv w Never gv g.lines) :
    Calls Tryz.prog 47 #[.agg #[.string f.path, fv], .agg #[.string g.path, gv]] w fun e w' => e = .returned (.bool (decide (f = g))) ∧ Chg Never w w' := by
  obtain ⟨a, cap, rfl, _, _, _⟩ := rdv_slice hf
  obtain ⟨c, cap', rfl, _, _, _⟩ := rdv_slice hg
  obtain ⟨W1, hW1⟩ : ∃ W, W = w.alloc (.cells #[.string f.path, .slice a f.lines.length cap] 70) := ⟨_, rfl⟩
  obtain ⟨hc1, b0, b1⟩ := box_file _ _ _ _ _ hW1
  obtain ⟨W2, hW2⟩ : ∃ W, W = W1.alloc (.cells #[.string g.path, .slice c g.lines.length cap'] 70) := ⟨_, rfl⟩
  obtain ⟨hc2, d0, d1⟩ := box_file _ _ _ _ _ hW2
  have hs1 : W1.heap.size = w.heap.size + 1 := by rw [hW1, World.size_alloc]
  rw [hs1] at d0 d1
  have b0 := hc2.cellNever b0
  have b1 := hc2.cellNever b1
  have hw := hc1.trans hc2
  have hfl := hf.never hw
  have hgl := hg.never hw
  by_cases hp : f.path = g.path
  · have HD : Hid (decide (f = g) = decide (f.lines = g.lines)) := by
      rw [Hid]
      congr 1
      cases f; cases g
      simp only at hp
      subst hp
      simp
    have t1 : (f.path.toList == g.path.toList) = true := by rw [hp]; simp
    clear hp
    go_enter Tryz.func47, Tryz.ntmps47
    go_wp2_with fail
    rw [← hW1, ← hW2]
    clear hW1 hW2
    go_wp2_with fail
    refine (equal_any _ _ _ _ _ hfl hgl).mono ?_
    rintro e w3 ⟨rfl, hc3⟩
    go_wp2_with fail
    go_ret
    exact ⟨by rw [HD.out]; rfl, hw.trans hc3⟩
  · have HD : Hid (decide (f = g) = false) := decide_eq_false (fun e => hp (by rw [e]))
    have t1 := str_beq_false hp
    clear hp
    go_enter Tryz.func47, Tryz.ntmps47
    go_wp2_with fail
    rw [← hW1, ← hW2]
    clear hW1 hW2
    go_wp2_with fail
    go_ret
    exact ⟨by rw [HD.out]; rfl, hw⟩
set_option maxHeartbeats 2000000 in
set_option maxRecDepth 100000 in
theorem eqfunc_any (l m : List File) (v u : Value) (w : World) (h : Rdv w Never v l) (g : Rdv w Never u m) :
    Calls Tryz.prog 49 #[v, u, .func (.func 47) #[] #[]] w fun e w' => e = .returned (.bool (decide (l = m))) ∧ Chg Never w w' := by
  obtain ⟨a, cap, rfl, h1, h2, h3⟩ := rdv_slice h
  obtain ⟨c, cap', rfl, g1, g2, g3⟩ := rdv_slice g
  unfold maxLen at h2 g2
  by_cases h4 : l.length = m.length
  · have h4' : ((l.length : Int) != m.length) = false := by simp [h4]
    have H4 := Lib.hid h4
    clear h4
    go_enter Tryz.func49, Tryz.ntmps49
    go_wp2_with fail
    go_loopw [17] (fun i wr => ∃ k : Nat, k ≤ l.length ∧ i = .int .i64 k ∧ Hid (l.take k = m.take k) ∧ Chg Never w wr) (fun i _ => l.length - (intOf i).toNat)
    case atStart => exact ⟨0, Nat.zero_le _, rfl, by simp [Hid], Chg.refl _ _⟩
    case round =>
      obtain ⟨k, hk, rfl, hf, hc⟩ := hrel
      rename World => wr
      by_cases hlt : k < l.length
      · obtain ⟨x, hx⟩ : ∃ x, l[k]? = some x := ⟨l[k], by simp [hlt]⟩
        obtain ⟨y, hy⟩ : ∃ y, m[k]? = some y := ⟨m[k]'(by rw [← H4.out]; exact hlt), by simp [H4.out ▸ hlt]⟩
        obtain ⟨b, off, xv, rfl, _, _, c0, c1, _, hxl⟩ := elems_file h3 hx
        obtain ⟨b', off', yv, rfl, _, _, e0, e1, _, hyl⟩ := elems_file g3 hy
        have c0 := hc.cellNever c0
        have c1 := hc.cellNever c1
        have e0 := hc.cellNever e0
        have e1 := hc.cellNever e1
        have hxl := hxl.never hc
        have hyl := hyl.never hc
        obtain ⟨xa, xc, rfl, _, _, _⟩ := rdv_slice hxl
        obtain ⟨ya, yc, rfl, _, _, _⟩ := rdv_slice hyl
        clear h3 g3 h g
        have hlm : k < m.length := by rw [← H4.out]; exact hlt
        have HX := Lib.hid hx
        have HY := Lib.hid hy
        clear hx hy
        have b1 : (k : Int) < l.length := by omega
        have b2 : (k : Int) < m.length := by omega
        obtain ⟨W1, hW1⟩ : ∃ W, W = wr.alloc (.cells #[.string x.path, .slice xa x.lines.length xc] 70) := ⟨_, rfl⟩
        obtain ⟨hc1, p0, p1⟩ := box_file _ _ _ _ _ hW1
        obtain ⟨W2, hW2⟩ : ∃ W, W = W1.alloc (.cells #[.string y.path, .slice ya y.lines.length yc] 70) := ⟨_, rfl⟩
        obtain ⟨hc2, q0, q1⟩ := box_file _ _ _ _ _ hW2
        have hs1 : W1.heap.size = wr.heap.size + 1 := by rw [hW1, World.size_alloc]
        rw [hs1] at q0 q1
        have p0 := hc2.cellNever p0
        have p1 := hc2.cellNever p1
        have hw2 := (hc.trans hc1).trans hc2
        have hxl2 := (hxl.never hc1).never hc2
        have hyl2 := (hyl.never hc1).never hc2
        have e0 := hc1.cellNever e0
        have e1 := hc1.cellNever e1
        rw [hW1] at e0 e1 hs1
        rw [hW1] at hW2
        go_wp2_with fail
        rw [← hW2]
        clear e0 e1 c0 c1 hW1 hW2
        go_wp2_with fail
        refine (feq_any x y _ _ _ hxl2 hyl2).mono ?_
        rintro e w3 ⟨rfl, hc3⟩
        have hw3 := hw2.trans hc3
        clear p0 p1 q0 q1
        by_cases hxy : x = y
        · subst hxy
          rw [decide_eq_true rfl]
          go_wp2_with fail
          go_roundw
          case rel => exact ⟨k + 1, by omega, by go_num, take_same hf HX.out HY.out, hw3⟩
          case measure => simp [intOf]; omega
        · rw [decide_eq_false hxy]
          have HN := Lib.hid (ne_of_get HX.out HY.out hxy)
          go_wp2_with fail
          go_ret
          exact ⟨by rw [decide_eq_false HN.out]; rfl, hw3⟩
      · go_wp2_with fail
        go_ret
        have E : l = m := by
          have := hf.out
          rwa [List.take_of_length_le (by omega), List.take_of_length_le (by rw [← H4.out]; omega)] at this
        exact ⟨by rw [decide_eq_true E]; rfl, hc⟩
  · have h4' : ((l.length : Int) != m.length) = true := by simp; omega
    go_enter Tryz.func49, Tryz.ntmps49
    go_wp2_with fail
    go_ret
    exact ⟨by rw [decide_eq_false (fun e => h4 (by rw [e]))]; rfl, Chg.refl _ _⟩
end Go.Proofs.YtmjpfoeaobdaeaaGreatDoor
namespace Go.Proofs.YtmjpfoeaobdaeaaGreatDoor
open Go.RowKit

/-- what Far answers -/
def farV (l m : List ByteArray) : Value := .tuple #[.int .i64 (if checkedFault l m = 0 then (far l m : Int) else 0), errV (checkedFault l m)]
theorem far_any (l m : List ByteArray) (v u : Value) (w : World) (h : Rdv w Never v l) (g : Rdv w Never u m) :
    Calls Tryz.prog 43 #[v, u] w fun e w' => e = .returned (farV l m) ∧ Chg Never w w' := by
  by_cases hz : checkedFault l m = 0
  · have hlm := checkedFault_zero.1 hz
    go_enter Tryz.func43, Tryz.ntmps43
    go_wp2_with fail
    refine (checked_any l m _ _ _ h g).mono ?_
    rintro e w' ⟨rfl, rfl⟩
    rw [hz, errV_zero]
    have HZ := Lib.hid hz
    clear hz
    go_wp2_with fail
    refine (measure_any l m _ _ _ h g (linesFault_len hlm.1) (linesFault_len hlm.2)).mono ?_
    rintro e w1 ⟨rfl, hc, hF⟩
    have c0 : w1.cell? ⟨w.heap.size, 0, none⟩ = some (.int .i64 (far l m)) := by simpa using hF.cell (i := 0) (k := 0) (Nat.zero_le _) (Nat.zero_le _) (by omega)
    go_wp2_with fail
    go_ret2
    exact ⟨by rw [farV, if_pos HZ.out, HZ.out]; rfl, hc⟩
  · go_enter Tryz.func43, Tryz.ntmps43
    go_wp2_with fail
    refine (checked_any l m _ _ _ h g).mono ?_
    rintro e w' ⟨rfl, rfl⟩
    rw [errV_pos hz]
    go_wp2_with fail
    go_ret2
    exact ⟨by rw [farV, if_neg hz, errV_pos hz]; rfl, Chg.refl _ _⟩
end Go.Proofs.YtmjpfoeaobdaeaaGreatDoor
namespace Go.Proofs.YtmjpfoeaobdaeaaGreatDoor
open Go.RowKit

/-- the session's box -/
def SesAt (O : Nat → Prop) (w : World) (b : Nat) (m : Ses) : Prop := ∃ vo vn, Blk2 w b 33 vo vn ∧ Rdv w O vo m.old ∧ Rdv w O vn m.new
theorem Blk2.set0 {w : World} {B : Nat} {t : TypeId} {x y : Value} (h : Blk2 w B t x y) (u : Value) : Blk2 (w.setCell ⟨B, 0, none⟩ u) B t u y := by
  unfold Blk2 at *
  simp [World.setCell, Array.getElem?_modify, h]
theorem rdv_setO {α : Type} [Dat α] {w : World} {O : Nat → Prop} {v : Value} {x : α} (h : Rdv w O v x) {b : Nat} (hb : O b) (i : Nat) (u : Value) : Rdv (w.setCell ⟨b, i, none⟩ u) O v x :=
  h.keep (Chg.setCell (O := fun k => k = b) (Chg.refl _ w) (p := ⟨b, i, none⟩) (.inr rfl) u) (fun k _ e => by rw [e]; exact hb) (fun _ _ h => h)
theorem ses_set0 {O : Nat → Prop} {w : World} {b : Nat} {vo vn r : Value} {x y : List File} (hb : Blk2 w b 33 vo vn) (hr : Rdv w O r x) (hn : Rdv w O vn y) (hO : O b) : SesAt O (w.setCell ⟨b, 0, none⟩ r) b ⟨x, y⟩ :=
  ⟨r, vn, hb.set0 r, rdv_setO hr hO 0 r, rdv_setO hn hO 0 r⟩
theorem ses_set1 {O : Nat → Prop} {w : World} {b : Nat} {vo vn r : Value} {x y : List File} (hb : Blk2 w b 33 vo vn) (ho : Rdv w O vo x) (hr : Rdv w O r y) (hO : O b) : SesAt O (w.setCell ⟨b, 1, none⟩ r) b ⟨x, y⟩ :=
  ⟨vo, r, hb.set1 r, rdv_setO ho hO 1 r, rdv_setO hr hO 1 r⟩
theorem SesAt.never {O : Nat → Prop} {w w' : World} {b : Nat} {m : Ses} (h : SesAt O w b m) (hc : Chg Never w w') : SesAt O w' b m := by
  obtain ⟨vo, vn, h1, h2, h3⟩ := h
  exact ⟨vo, vn, h1.keep hc (fun x => x), h2.never hc, h3.never hc⟩
/-- what act leaves and answers -/
def ActPost (b : Nat) (O : Nat → Prop) (r : Ses × List UInt8) (bad : Bool) (w : World) (e : Ending) (w' : World) : Prop :=
  Chg (fun k => k = b) w w' ∧ SesAt O w' b r.1 ∧ e = if bad = true then .panicked unreadP else .returned (.string (toB r.2))
theorem wtest (x W : List UInt8) : ((toB x).toList == W) = decide (x = W) := by
  rw [Lib.toList_data, toB_data]
  by_cases h : x = W
  · subst h; simp
  · rw [decide_eq_false h]; simpa using h
/-- what 'far' answers, and 'same' -/
def farS (m : Ses) (p : ByteArray) : List UInt8 := if pathFault p = 0 then Lib.itoa (far (linesIn m.old p) (linesIn m.new p)) ++ [10] else toldS [] (pathFault p)
def sameS (m : Ses) : List UInt8 := if m.old = m.new then yesL else noL
/-- what stands at act's start -/
structure ActIn (b : Nat) (O : Nat → Prop) (m : Ses) (w : World) (vo vn : Value) (mx : Int) : Prop where
  box : Blk2 w b 33 vo vn
  old : Rdv w O vo m.old
  new : Rdv w O vn m.new
  lt : ∀ k, O k → k < w.heap.size
  ob : O b
  ok : SesOk m
  b9 : 9 ≤ b
  gl : Globs w mx
  er : w.cell? ⟨1, 0, none⟩ = some errT
set_option maxHeartbeats 4000000 in
set_option maxRecDepth 100000 in
theorem act_drop (b : Nat) (O : Nat → Prop) (m : Ses) (p : ByteArray) (ws : Value) (w : World) (vo vn : Value) (mx : Int) (h : ActIn b O m w vo vn mx) (hws : Rdv w Never ws [toB dropW, p]) :
    Calls Tryz.prog 22 #[.pointer (some ⟨b, 0, none⟩), ws] w (ActPost b O (⟨m.old, dropT m.new p⟩, toldS okW (getFault m.new p)) false w) := by
  obtain ⟨c0, c1⟩ := h.box.cell
  have hb := h.box
  have ho := h.old
  have hn := h.new
  have hOb := h.ob
  have hOl := h.lt
  have hok := h.ok
  have hb9 := h.b9
  have hg := h.gl
  have he := h.er
  have hon : Rdv w Never vo m.old := ho.sub (fun _ _ h => h.elim)
  have hnn : Rdv w Never vn m.new := hn.sub (fun _ _ h => h.elim)
  obtain ⟨oa, oc, rfl, _, _, _⟩ := rdv_slice ho
  obtain ⟨na, nc, rfl, _, _, _⟩ := rdv_slice hn
  clear h
  obtain ⟨wa, wc, rfl, wz1, wz2, wz3⟩ := rdv_slice hws
  obtain ⟨wb, woff, rfl, _, _, k0, _⟩ := elems_str wz3 (i := 0) rfl
  obtain ⟨wb', woff', hwe, _, _, k1, hps⟩ := elems_str wz3 (i := 1) rfl
  injection hwe with hwe
  injection hwe with hwe1 hwe2 _
  subst hwe1 hwe2
  clear wz3 hws
  simp only [List.length_cons, List.length_nil, Nat.add_zero, Nat.zero_add, Nat.reduceAdd] at k0 k1 wz1 ⊢
  have t1 : ((toB dropW).toList == [100, 114, 111, 112]) = true := by rw [wtest]; decide
  have t2 : ((toB dropW).toList == [100, 105, 102, 102]) = false := by rw [wtest]; decide
  have t3 : ((toB dropW).toList == [102, 97, 114]) = false := by rw [wtest]; decide
  have t4 : ((toB dropW).toList == [103, 111]) = false := by rw [wtest]; decide
  have t5 : ((toB dropW).toList == [115, 97, 109, 101]) = false := by rw [wtest]; decide
  have hcd : Chg Never w w.drew := (Chg.refl Never w).drew
  have hnd := hnn.never hcd
  have hob := ho.never hcd
  generalize toB dropW = X at k0 t1 t2 t3 t4 t5
  have HDT : Hid (dropT m.new p = if getFault m.new p = 0 then dropAt m.new (posOf m.new p) else m.new) := rfl
  have HDR : Hid (dropR m.new p = if getFault m.new p = 0 then dropAt m.new (posOf m.new p) else []) := rfl
  go_enter Tryz.func22, Tryz.ntmps22
  go_wp2_with fail
  refine wp_region_held_drew (S := fun w' => Chg Never w w' ∧ w'.cell? ⟨b, 1, none⟩ = some (.slice na m.new.length nc) ∧ w'.cell? ⟨wb, woff + 1, none⟩ = some (.string p)) (by kernel_rfl) ⟨hcd, c1, k1⟩ (fun hH => ?_)
  refine' tk 0 ?_
  refine' tk 1 ?_
  refine' tk 2 ?_
  refine' tk 3 ?_
  refine' tk 4 ?_
  refine' tk 5 ?_
  refine' tk 6 ?_
  refine' tk 7 ?_
  refine wpAnyH_ready (rs := [8]) (by kernel_rfl) (by simp) ?_
  refine AllReadyH.cons rfl (fun K hK => ?_) AllReadyH.nil
  go_simp
  (go_at_call 40; refine (tree_drop_any m.new p _ _ hnd mx hg.ml).mono ?_; rintro e w1 ⟨r1, rfl, hc1, hr1⟩; have hw1 := hcd.trans hc1; have hS2 : Chg Never w w1 ∧ w1.cell? ⟨b, 1, none⟩ = some (.slice na m.new.length nc) ∧ w1.cell? ⟨wb, woff + 1, none⟩ = some (.string p) := ⟨hw1, hw1.cellNever c1, hw1.cellNever k1⟩; obtain ⟨ra, rc, rfl, _, _, _⟩ := rdv_slice hr1; clear hH)
  try go_wp2_with fail
  refine hK.out _ _ ?_ (fun hH => ?_)
  · assumption
  clear hK K
  try simp only [Act.put, List.setIfInBounds_toArray, List.set_cons_zero, List.set_cons_succ]
  refine' tk 9 ?_
  refine' tk 10 ?_
  refine' tk 11 ?_
  refine' tk 12 ?_
  refine' tk 13 ?_
  refine wpAnyH_done (by kernel_rfl) ?_ _
  have hr := hr1.sub (O' := O) (fun k _ hk => hOl k hk)
  have hb1 := hb.keep hw1 (fun x => x)
  have ho1 := ho.never hw1
  have hn1 := hn.never hw1
  generalize (dropR m.new p).length = nn at hr
  clear hS2 hr1 hnd hob hnn hon
  by_cases z : getFault m.new p = 0
  · have Z := Lib.hid z
    have HT2 : Hid (dropT m.new p = dropR m.new p) := by rw [Hid, HDT.out, HDR.out, if_pos z, if_pos z]
    rw [z, errV_zero]
    have q1 := hw1.cellNever c1
    have f1 := hb1.free 1
    have hcs : Chg (fun k => k = b) w (w1.setCell ⟨b, 1, none⟩ (.slice ra nn rc)) := Chg.setCell (O := fun k => k = b) (hw1.mono (fun _ _ h => h.elim)) (p := ⟨b, 1, none⟩) (.inr rfl) _
    have he4 := hcs.cell he (by show ¬ 1 = b; omega)
    have hses := ses_set1 hb1 ho1 hr hOb
    clear z HDT HDR
    go_wp2_with fail
    refine (rtold_any okW (by decide) 0 _ he4).mono ?_
    rintro e w5 ⟨rfl, hc5⟩
    go_wp2_with fail
    go_ret
    exact ⟨hcs.trans (hc5.mono (fun _ _ h => h.elim)), by rw [HT2.out]; exact hses.never hc5, by rw [Z.out]; rfl⟩
  · have Z := Lib.hid z
    have HT2 : Hid (dropT m.new p = m.new) := by rw [Hid, HDT.out, if_neg z]
    have he4 := hw1.cellNever he
    have hi := rtold_any okW (by decide) (getFault m.new p) _ he4
    obtain ⟨E, hE⟩ : ∃ E, errV (getFault m.new p) = E := ⟨_, rfl⟩
    rw [hE] at hi ⊢
    obtain ⟨T, P, rfl⟩ : ∃ T P, E = .iface T P := ⟨_, _, by rw [← hE, errV_pos z]⟩
    clear z HDT HDR hE
    go_wp2_with fail
    refine hi.mono ?_
    rintro e w5 ⟨rfl, hc5⟩
    go_wp2_with fail
    go_ret
    exact ⟨(hw1.trans hc5).mono (fun _ _ h => h.elim), by rw [HT2.out]; exact ⟨_, _, hb1.keep hc5 (fun x => x), ho1.never hc5, hn1.never hc5⟩, rfl⟩
end Go.Proofs.YtmjpfoeaobdaeaaGreatDoor
namespace Go.Proofs.YtmjpfoeaobdaeaaGreatDoor
open Go.RowKit

def doneR (there : Bool) (L : List ByteArray) (c : Change) : List ByteArray × Bool × Int :=
  if c.what = 2 ∧ there = true then ([], false, 6)
  else if c.what ≠ 2 ∧ there = false then ([], false, 4)
  else if (strict L c.hunks).2.2 ≠ 0 then ([], false, (strict L c.hunks).2.2)
  else if c.what = 3 ∧ (strict L c.hunks).1 ≠ [] then ([], false, 6)
  else ((strict L c.hunks).1, decide (c.what ≠ 3), 0)
theorem done_step (x : Option (List ByteArray)) (c : Change) : stepOf x c = (if (doneR x.isSome (x.getD []) c).2.1 = true then some (doneR x.isSome (x.getD []) c).1 else none, (doneR x.isSome (x.getD []) c).2.2) := by
  unfold stepOf doneR
  by_cases h1 : c.what = 2 ∧ x.isSome = true
  · rw [if_pos h1, if_pos h1]; rfl
  · rw [if_neg h1, if_neg h1]
    by_cases h2 : c.what ≠ 2 ∧ x.isSome = false
    · rw [if_pos h2, if_pos h2]; rfl
    · rw [if_neg h2, if_neg h2]
      by_cases h3 : (strict (x.getD []) c.hunks).2.2 ≠ 0
      · rw [if_pos h3, if_pos h3]; rfl
      · rw [if_neg h3, if_neg h3]
        by_cases h4 : c.what = 3
        · by_cases h5 : (strict (x.getD []) c.hunks).1 = []
          · simp [h4, h5]
          · simp [h4, h5]
        · simp [h4]
theorem done_clash {there : Bool} {L : List ByteArray} {c : Change} (h : c.what = 2 ∧ there = true) : doneR there L c = ([], false, 6) := if_pos h
theorem done_none {there : Bool} {L : List ByteArray} {c : Change} (h : c.what ≠ 2 ∧ there = false) : doneR there L c = ([], false, 4) := by unfold doneR; rw [if_neg (fun g => h.1 g.1), if_pos h]
theorem done_bad {there : Bool} {L : List ByteArray} {c : Change} (h1 : ¬ (c.what = 2 ∧ there = true)) (h2 : ¬ (c.what ≠ 2 ∧ there = false)) (h : (strict L c.hunks).2.2 ≠ 0) : doneR there L c = ([], false, (strict L c.hunks).2.2) := by unfold doneR; rw [if_neg h1, if_neg h2, if_pos h]
theorem done_left {there : Bool} {L : List ByteArray} {c : Change} (h1 : ¬ (c.what = 2 ∧ there = true)) (h2 : ¬ (c.what ≠ 2 ∧ there = false)) (h : (strict L c.hunks).2.2 = 0) (g : c.what = 3 ∧ (strict L c.hunks).1 ≠ []) : doneR there L c = ([], false, 6) := by unfold doneR; rw [if_neg h1, if_neg h2, if_neg (by rw [h]; decide), if_pos g]
theorem done_good {there : Bool} {L : List ByteArray} {c : Change} (h1 : ¬ (c.what = 2 ∧ there = true)) (h2 : ¬ (c.what ≠ 2 ∧ there = false)) (h : (strict L c.hunks).2.2 = 0) (g : ¬ (c.what = 3 ∧ (strict L c.hunks).1 ≠ [])) : doneR there L c = ((strict L c.hunks).1, decide (c.what ≠ 3), 0) := by unfold doneR; rw [if_neg h1, if_neg h2, if_neg (by rw [h]; decide), if_neg g]
def DonePost (there : Bool) (L : List ByteArray) (c : Change) (w : World) (e : Ending) (w' : World) : Prop := ∃ r, e = .returned (.tuple #[r, .bool (doneR there L c).2.1, errV (doneR there L c).2.2]) ∧ Chg Never w w' ∧ Rdv w' (Old w.heap.size) r (doneR there L c).1
theorem donePost_bad {there : Bool} {L : List ByteArray} {c : Change} {w w' : World} {k : Int} (h : doneR there L c = ([], false, k)) (hc : Chg Never w w') : DonePost there L c w (.returned (.tuple #[.slice none 0 0, .bool false, errV k])) w' :=
  ⟨_, by rw [h], hc, by rw [h]; exact rdv_nil _ _⟩
theorem donePost_ok {there b : Bool} {L R : List ByteArray} {c : Change} {w w' : World} {r : Value} (h : doneR there L c = (R, b, 0)) (hc : Chg Never w w') (hr : Rdv w' (Old w.heap.size) r R) : DonePost there L c w (.returned (.tuple #[r, .bool b, .nilIface])) w' :=
  ⟨_, by rw [h]; rfl, hc, by rw [h]; exact hr⟩
set_option maxHeartbeats 2000000 in
set_option maxRecDepth 100000 in
theorem done_go (there : Bool) (L : List ByteArray) (wh : Int) (pa : ByteArray) (hs : List Hunk) (lv hv : Value) (w : World) (hL : Rdv w Never lv L) (hh : Rdv w Never hv hs) :
    Calls Tryz.prog 86 #[lv, .bool there, .agg #[.int .i64 wh, .string pa, hv]] w fun e w' => DonePost there L ⟨wh, pa, hs⟩ w e w' := by
  obtain ⟨a, cap, rfl, h1, h2, _⟩ := rdv_slice hh
  obtain ⟨la, lcap, rfl, _, _, _⟩ := rdv_slice hL
  by_cases k2 : wh = 2
  · subst k2
    obtain ⟨hA, b0, b1, b2⟩ := box1_change w 100 2 pa (.slice a hs.length cap) _ rfl
    cases there with
    | true =>
      have HG := Lib.hid (donePost_bad (w := w) (done_clash (L := L) (c := ⟨2, pa, hs⟩) ⟨rfl, rfl⟩) hA)
      go_enter Tryz.func86, Tryz.ntmps86
      go_wp2_with fail
      go_ret3
      have E := HG.out
      rw [errV_pos (by decide)] at E
      exact E
    | false =>
      have n1 : ¬ ((⟨2, pa, hs⟩ : Change).what = 2 ∧ false = true) := fun h => by cases h.2
      have n2 : ¬ ((⟨2, pa, hs⟩ : Change).what ≠ 2 ∧ false = false) := fun h => h.1 rfl
      by_cases z : (strict L hs).2.2 = 0
      · have HG : Hid (doneR false L ⟨2, pa, hs⟩ = ((strict L hs).1, true, 0)) := done_good n1 n2 z (fun h => absurd (show (2 : Int) = 3 from h.1) (by decide))
        have ZS := Lib.hid z
        clear z n1 n2
        go_enter Tryz.func86, Tryz.ntmps86
        go_wp2_with fail
        generalize w.alloc (.cells #[.int .i64 2, .string pa, .slice a hs.length cap] 100) = wA at hA b0 b1 b2 ⊢
        refine (strict_any L hs _ _ _ (hL.never hA) (hh.never hA)).mono ?_
        rintro e w2 ⟨r, rfl, hc2, hr⟩
        have hw := hA.trans hc2
        have b0 := hc2.cellNever b0
        have hr := hr.sub (O' := Old w.heap.size) (fun k _ h => Nat.lt_of_lt_of_le h hA.size)
        clear hc2 b1 b2
        skip
        obtain ⟨ra, rc, rfl, _, _, _⟩ := rdv_slice hr
        rw [ZS.out, errV_zero]
        go_wp2_with fail
        go_quiet (fail)
        go_wp2_with fail
        go_ret3
        exact donePost_ok HG.out (hw.drewN _) (hr.never ((Chg.refl Never _).drewN _))
      · have HG := Lib.hid (done_bad n1 n2 z)
        have ZS := Lib.hid z
        clear z n1 n2
        go_enter Tryz.func86, Tryz.ntmps86
        go_wp2_with fail
        generalize w.alloc (.cells #[.int .i64 2, .string pa, .slice a hs.length cap] 100) = wA at hA b0 b1 b2 ⊢
        refine (strict_any L hs _ _ _ (hL.never hA) (hh.never hA)).mono ?_
        rintro e w2 ⟨r, rfl, hc2, hr⟩
        have hw := hA.trans hc2
        have b0 := hc2.cellNever b0
        have hr := hr.sub (O' := Old w.heap.size) (fun k _ h => Nat.lt_of_lt_of_le h hA.size)
        clear hc2 b1 b2
        skip
        obtain ⟨ra, rc, rfl, _, _, _⟩ := rdv_slice hr
        rw [errV_pos ZS.out]
        clear b0
        go_wp2_with fail
        go_ret3
        have E := donePost_bad HG.out hw
        rw [errV_pos ZS.out] at E
        exact E
  · have t2 : (wh == 2) = false := by simp [k2]
    have t2' : (wh != 2) = true := by simp [k2]
    obtain ⟨hA, b0, b1, b2⟩ := box1_change w 100 wh pa (.slice a hs.length cap) _ rfl
    cases there with
    | false =>
      have HG := Lib.hid (donePost_bad (w := w) (done_none (L := L) (c := ⟨wh, pa, hs⟩) ⟨k2, rfl⟩) hA)
      clear k2
      go_enter Tryz.func86, Tryz.ntmps86
      go_wp2_with fail
      go_ret3
      have E := HG.out
      rw [errV_pos (by decide)] at E
      exact E
    | true =>
      have n1 : ¬ ((⟨wh, pa, hs⟩ : Change).what = 2 ∧ true = true) := fun h => k2 h.1
      have n2 : ¬ ((⟨wh, pa, hs⟩ : Change).what ≠ 2 ∧ true = false) := fun h => by cases h.2
      by_cases z : (strict L hs).2.2 = 0
      · have ZS := Lib.hid z
        by_cases k3 : wh = 3
        · subst k3
          by_cases h0 : (strict L hs).1 = []
          · have HG : Hid (doneR true L ⟨3, pa, hs⟩ = ([], false, 0)) := (done_good n1 n2 z (fun h => h.2 h0)).trans (by rw [show (strict L (⟨3, pa, hs⟩ : Change).hunks).1 = [] from h0]; rfl)
            have H0 := Lib.hid h0
            clear z n1 n2 k2 h0 t2 t2'
            go_enter Tryz.func86, Tryz.ntmps86
            go_wp2_with fail
            generalize w.alloc (.cells #[.int .i64 3, .string pa, .slice a hs.length cap] 100) = wA at hA b0 b1 b2 ⊢
            refine (strict_any L hs _ _ _ (hL.never hA) (hh.never hA)).mono ?_
            rintro e w2 ⟨r, rfl, hc2, hr⟩
            have hw := hA.trans hc2
            have b0 := hc2.cellNever b0
            have hr := hr.sub (O' := Old w.heap.size) (fun k _ h => Nat.lt_of_lt_of_le h hA.size)
            clear hc2 b1 b2
            rw [H0.out] at hr
            obtain ⟨ra, rc, rfl, _, _, _⟩ := rdv_slice hr
            rw [ZS.out, errV_zero]
            go_wp2_with fail
            go_quiet (fail)
            go_wp2_with fail
            go_ret3
            exact donePost_ok HG.out (hw.drewN _) (hr.never ((Chg.refl Never _).drewN _))
          · have HG := Lib.hid (done_left n1 n2 z ⟨rfl, h0⟩)
            have hpos : 0 < (strict L hs).1.length := List.length_pos_iff.2 h0
            clear z n1 n2 k2 h0 t2 t2'
            go_enter Tryz.func86, Tryz.ntmps86
            go_wp2_with fail
            generalize w.alloc (.cells #[.int .i64 3, .string pa, .slice a hs.length cap] 100) = wA at hA b0 b1 b2 ⊢
            refine (strict_any L hs _ _ _ (hL.never hA) (hh.never hA)).mono ?_
            rintro e w2 ⟨r, rfl, hc2, hr⟩
            have hw := hA.trans hc2
            have b0 := hc2.cellNever b0
            have hr := hr.sub (O' := Old w.heap.size) (fun k _ h => Nat.lt_of_lt_of_le h hA.size)
            clear hc2 b1 b2
            skip
            obtain ⟨ra, rc, rfl, _, _, _⟩ := rdv_slice hr
            rw [ZS.out, errV_zero]
            go_wp2_with fail
            all_goals first | (go_ret3; have E := donePost_bad HG.out hw; rw [errV_pos (by decide)] at E; exact E) | skip
        · have t3 : (wh == 3) = false := by simp [k3]
          have HG : Hid (doneR true L ⟨wh, pa, hs⟩ = ((strict L hs).1, wh != 3, 0)) := (done_good n1 n2 z (fun h => k3 h.1)).trans (by rw [show decide ((⟨wh, pa, hs⟩ : Change).what ≠ 3) = true from decide_eq_true k3, show (wh != 3) = true by simp [k3]])
          clear z n1 n2 k2 k3
          go_enter Tryz.func86, Tryz.ntmps86
          go_wp2_with fail
          generalize w.alloc (.cells #[.int .i64 wh, .string pa, .slice a hs.length cap] 100) = wA at hA b0 b1 b2 ⊢
          refine (strict_any L hs _ _ _ (hL.never hA) (hh.never hA)).mono ?_
          rintro e w2 ⟨r, rfl, hc2, hr⟩
          have hw := hA.trans hc2
          have b0 := hc2.cellNever b0
          have hr := hr.sub (O' := Old w.heap.size) (fun k _ h => Nat.lt_of_lt_of_le h hA.size)
          clear hc2 b1 b2
          skip
          obtain ⟨ra, rc, rfl, _, _, _⟩ := rdv_slice hr
          rw [ZS.out, errV_zero]
          go_wp2_with fail
          go_quiet (fail)
          go_wp2_with fail
          go_ret3
          exact donePost_ok HG.out (hw.drewN _) (hr.never ((Chg.refl Never _).drewN _))
      · clear k2
        have HG := Lib.hid (done_bad n1 n2 z)
        have ZS := Lib.hid z
        clear z n1 n2
        go_enter Tryz.func86, Tryz.ntmps86
        go_wp2_with fail
        generalize w.alloc (.cells #[.int .i64 wh, .string pa, .slice a hs.length cap] 100) = wA at hA b0 b1 b2 ⊢
        refine (strict_any L hs _ _ _ (hL.never hA) (hh.never hA)).mono ?_
        rintro e w2 ⟨r, rfl, hc2, hr⟩
        have hw := hA.trans hc2
        have b0 := hc2.cellNever b0
        have hr := hr.sub (O' := Old w.heap.size) (fun k _ h => Nat.lt_of_lt_of_le h hA.size)
        clear hc2 b1 b2
        skip
        obtain ⟨ra, rc, rfl, _, _, _⟩ := rdv_slice hr
        rw [errV_pos ZS.out]
        clear b0
        go_wp2_with fail
        go_ret3
        have E := donePost_bad HG.out hw
        rw [errV_pos ZS.out] at E
        exact E
theorem done_any (there : Bool) (L : List ByteArray) (c : Change) (lv hv : Value) (w : World) (hL : Rdv w Never lv L) (hh : Rdv w Never hv c.hunks) :
    Calls Tryz.prog 86 #[lv, .bool there, .agg #[.int .i64 c.what, .string c.path, hv]] w fun e w' => DonePost there L c w e w' := done_go there L c.what c.path c.hunks lv hv w hL hh
end Go.Proofs.YtmjpfoeaobdaeaaGreatDoor
namespace Go.Proofs.YtmjpfoeaobdaeaaGreatDoor
open Go.RowKit

def insAt (T : List File) (i : Nat) (f : File) : List File := T.take i ++ f :: T.drop i
theorem apply_step {T : List File} {p : List Change} {k : Nat} {c : Change} (hd : p.drop k = c :: p.drop (k + 1)) (hz : (stepOf (look T c.path) c).2 = 0) : applyGo k T (p.drop k) = applyGo (k + 1) (setAt T c.path (stepOf (look T c.path) c).1) (p.drop (k + 1)) := by
  rw [hd, applyGo, if_neg (by rw [hz]; decide)]
theorem apply_bad {T : List File} {p : List Change} {k : Nat} {c : Change} (hd : p.drop k = c :: p.drop (k + 1)) (hz : (stepOf (look T c.path) c).2 ≠ 0) : applyGo k T (p.drop k) = ([], k, (stepOf (look T c.path) c).2) := by
  rw [hd, applyGo, if_pos hz]
theorem apply_end {T : List File} {p : List Change} : applyGo p.length T (p.drop p.length) = (T, 0, 0) := by rw [List.drop_length]; rfl
theorem find_is {T : List File} (hs : Sorted T) {p : ByteArray} (h : isAt T p = true) : ∃ f, T[posOf T p]? = some f ∧ f.path = p ∧ look T p = some f.lines ∧ posOf T p < T.length := by
  unfold isAt at h
  cases hf : T[posOf T p]? with
  | none => rw [hf] at h; cases h
  | some f =>
    rw [hf, Option.any_some] at h
    have hp := of_decide_eq_true h
    have := look_mem hs (List.mem_of_getElem? hf)
    rw [hp] at this
    exact ⟨f, rfl, hp, this, (List.getElem?_eq_some_iff.1 hf).1⟩
theorem find_not {T : List File} (hs : Sorted T) {p : ByteArray} (h : isAt T p = false) : look T p = none ∧ posOf T p ≤ T.length := by
  obtain ⟨A, C, h1, h2, _, _, h5, h6⟩ := tree_split hs p
  rcases h6 with ⟨h6, _⟩ | ⟨_, rfl⟩
  · rw [h6] at h; cases h
  · refine ⟨look_none fun x hx => ?_, by rw [h5, List.length_append]; omega⟩
    rcases List.mem_append.1 hx with hx | hx
    · exact less_ne (h1 x hx)
    · exact (less_ne (h2 x hx)).symm
theorem set_put {T : List File} {p : ByteArray} {l : List ByteArray} (h : isAt T p = false) : setAt T p (some l) = insAt T (posOf T p) ⟨p, l⟩ := by
  show putAt T ⟨p, l⟩ = _
  unfold putAt insAt
  rw [if_neg (by rw [h]; decide)]
theorem set_edit {T : List File} {p : ByteArray} {l : List ByteArray} (h : isAt T p = true) (hl : posOf T p < T.length) : setAt T p (some l) = insAt (dropAt T (posOf T p)) (posOf T p) ⟨p, l⟩ := by
  show putAt T ⟨p, l⟩ = _
  unfold putAt insAt dropAt
  have e : (T.take (posOf T p)).length = posOf T p := by rw [List.length_take]; omega
  rw [if_pos h]
  show _ = (T.take (posOf T p) ++ T.drop (posOf T p + 1)).take (posOf T p) ++ ⟨p, l⟩ :: (T.take (posOf T p) ++ T.drop (posOf T p + 1)).drop (posOf T p)
  congr 1
  · conv => rhs; arg 1; rw [← e]
    rw [List.take_left]
  · congr 1
    conv => rhs; arg 1; rw [← e]
    rw [List.drop_left]
theorem ins_len {T : List File} {i : Nat} {f : File} (h : i ≤ T.length) : (insAt T i f).length = T.length + 1 := by unfold insAt; rw [List.length_append, List.length_take, List.length_cons, List.length_drop]; omega
theorem drop_len {T : List File} {i : Nat} (h : i < T.length) : (dropAt T i).length = T.length - 1 := by unfold dropAt; rw [List.length_append, List.length_take, List.length_drop]; omega
theorem done_ok {there : Bool} {L : List ByteArray} {c : Change} (z : (doneR there L c).2.2 = 0) : (c.what = 2 → there = false) ∧ (c.what ≠ 2 → there = true) ∧ (doneR there L c).2.1 = decide (c.what ≠ 3) := by
  unfold doneR at z ⊢
  by_cases h1 : c.what = 2 ∧ there = true
  · rw [if_pos h1] at z; cases z
  · rw [if_neg h1] at z ⊢
    by_cases h2 : c.what ≠ 2 ∧ there = false
    · rw [if_pos h2] at z; cases z
    · rw [if_neg h2] at z ⊢
      by_cases h3 : (strict L c.hunks).2.2 ≠ 0
      · rw [if_pos h3] at z; exact absurd z h3
      · rw [if_neg h3] at z ⊢
        by_cases h4 : c.what = 3 ∧ (strict L c.hunks).1 ≠ []
        · rw [if_pos h4] at z; cases z
        · rw [if_neg h4]
          refine ⟨fun e => ?_, fun e => ?_, rfl⟩
          · cases there with
            | false => rfl
            | true => exact absurd ⟨e, rfl⟩ h1
          · cases there with
            | true => rfl
            | false => exact absurd ⟨e, rfl⟩ h2
theorem applyR_tree {t : List File} {p : List Change} (h : (treeFault t).2 ≠ 0) : applyR t p = ([], 0, (treeFault t).2) := if_pos h
theorem applyR_patch {t : List File} {p : List Change} (h : (treeFault t).2 = 0) (g : (patchFault p).2 ≠ 0) : applyR t p = ([], (patchFault p).1, (patchFault p).2) := by unfold applyR; rw [if_neg (by rw [h]; decide), if_pos g]
theorem applyR_go {t : List File} {p : List Change} (h : (treeFault t).2 = 0) (g : (patchFault p).2 = 0) {r : List File} {k : Nat} {e : Int} (x : applyGo 0 t p = (r, k, e)) : applyR t p = if e ≠ 0 then (r, k, e) else if 8 < r.length then ([], 0, 3) else (r, 0, 0) := by
  unfold applyR; rw [if_neg (by rw [h]; decide), if_neg (by rw [g]; decide), x]
end Go.Proofs.YtmjpfoeaobdaeaaGreatDoor
namespace Go.Proofs.YtmjpfoeaobdaeaaGreatDoor
open Go.RowKit

/-- v owns its row, which has come since w0, and so has all that its elements hold -/
structure OwnQ {α : Type} [Dat α] (e : TypeId) (w0 wr : World) (v : Value) (l : List α) : Prop where
  own : Own e wr (Old w0.heap.size) v l
  new : ∀ k, v.ownBlock = some k → w0.heap.size ≤ k
  chg : Chg Never w0 wr
theorem OwnQ.olds {α : Type} [Dat α] {e : TypeId} {w0 wr : World} {v : Value} {l : List α} (h : OwnQ e w0 wr v l) : ∀ k, Old w0.heap.size k → k < wr.heap.size := fun _ hk => Nat.lt_of_lt_of_le hk h.chg.size
theorem OwnQ.step {α : Type} [Dat α] {e : TypeId} {w0 wr w' : World} {v v' : Value} {l l' : List α} (h : OwnQ e w0 wr v l) (hown : Own e w' (Old w0.heap.size) v' l') (hc : Chg (OwnB v) wr w') (hk : ∀ k, v'.ownBlock = some k → v.ownBlock = some k ∨ wr.heap.size ≤ k) : OwnQ e w0 w' v' l' :=
  ⟨hown, fun k hk' => (hk k hk').elim (h.new k) (fun hh => Nat.le_trans h.chg.size hh), h.chg.trans' hc (fun i hi hh => absurd (h.new i hh) (by omega))⟩
theorem OwnQ.never {α : Type} [Dat α] {e : TypeId} {w0 wr w' : World} {v : Value} {l : List α} (h : OwnQ e w0 wr v l) (hc : Chg Never wr w') : OwnQ e w0 w' v l := ⟨h.own.never hc, h.new, h.chg.trans hc⟩
theorem OwnQ.fresh {α β : Type} [Dat α] [Dat β] {e : TypeId} {w0 wr w' : World} {v u : Value} {l : List α} {x : β} (h : OwnQ e w0 wr v l) (hu : Rdv w' (Old wr.heap.size) u x) : Rdv w' (fun k => Old w0.heap.size k ∨ v.ownBlock = some k) u x :=
  hu.sub (fun k _ hh => by
    rcases hh with hh | hh
    · exact Nat.lt_of_lt_of_le hh h.chg.size
    · exact own_block_lt h.own k hh)
theorem info_file : ∃ i, Tryz.prog.info? 70 = some i ∧ i.size = 2 ∧ i.zero = some (.agg #[.string ⟨#[]⟩, .slice none 0 0]) ∧ i.bytes ≤ 128 := by
  obtain ⟨i, h1, h2, h3, h4⟩ := info_parts (P := Tryz.prog) (e := 70) (z := .agg #[.string ⟨#[]⟩, .slice none 0 0]) (size := 2) (bytes := 40) (by kernel_rfl)
  exact ⟨i, h1, h3, h2, by omega⟩
theorem zero_file : (Builtin.zeroCells (Value.agg #[.string ⟨#[]⟩, .slice none 0 0]).cells 1).toList = [.string ⟨#[]⟩, .slice none 0 0] := by
  simp [Builtin.zeroCells, Value.cells, Array.range, Array.ofFn]
  try rfl
theorem take_two {a b : List Value} {k : Nat} (h : a.length = k) : (a ++ b).take k = a := by subst h; exact List.take_left
theorem drop_two {a b : List Value} {k : Nat} (h : a.length = k) : (a ++ b).drop k = b := by subst h; exact List.drop_left
set_option maxHeartbeats 2000000 in
set_option maxRecDepth 100000 in
theorem delete_any (T : List File) (i : Nat) (v : Value) (w0 w : World) (hn : OwnQ 70 w0 w v T) (hi : i < T.length) (hT : T.length ≤ 1000000) :
    Calls Tryz.prog 87 #[v, .int .i64 i, .int .i64 ((i : Int) + 1)] w fun e w' => ∃ r, e = .returned r ∧ OwnQ 70 w0 w' r (dropAt T i) ∧ Chg (OwnB v) w w' ∧ (∀ k, r.ownBlock = some k → v.ownBlock = some k) := by
  obtain ⟨g, cap, r, tail, rfl, hg, hsz, hle, hcm, _, hr⟩ := own_rows hn.own (by omega)
  obtain ⟨hrl, hrq⟩ := hr.len
  have hrq : ∀ c ∈ r, c.length = 2 := hrq
  have hsz : (r.flatten ++ tail).length = cap * 2 := hsz
  obtain ⟨inf, hinf, hi2, _, _⟩ := info_file
  have hfl : r.flatten.length = T.length * 2 := by rw [cells_len hrq, hrl]
  have hnew : w0.heap.size ≤ g := hn.new g rfl
  have hgl : g < w.heap.size := (Array.getElem?_eq_some_iff.1 hg).1
  have hRow := Lib.hid hr
  unfold maxLen at hcm
  -- what moves to the left
  have hm1 : ((r.drop (i + 1)).flatten).length = (T.length - (i + 1)) * 2 := by rw [cells_len (fun c hc => hrq c (List.mem_of_mem_drop hc)), List.length_drop, hrl]
  obtain ⟨A, hA, hsrc⟩ : ∃ A : Addr, (if cap = i + 1 then some (⟨g, 0, none⟩ : Addr) else some ⟨g, (i + 1) * 2, none⟩) = some A ∧ Hid (∀ j u, ((r.drop (i + 1)).flatten)[j]? = some u → w.drew.cell? (A.add j) = some u) := by
    by_cases h : cap = i + 1
    · refine ⟨⟨g, 0, none⟩, by rw [if_pos h], fun j u hu => ?_⟩
      have h0 : (r.drop (i + 1)).flatten = [] := List.eq_nil_of_length_eq_zero (by rw [hm1]; omega)
      rw [h0] at hu
      simp at hu
    · refine ⟨⟨g, (i + 1) * 2, none⟩, by rw [if_neg h], fun j u hu => ?_⟩
      rw [Addr.add_lit]
      refine row_cell (w := w.drew) hg ?_
      rw [← cells_drop r (i + 1) hrq, List.getElem?_drop] at hu
      rw [List.getElem?_append_left (List.getElem?_eq_some_iff.1 hu).1]
      exact hu
  have hone : ∀ u ∈ (r.drop (i + 1)).flatten, u.oneCell' = true := fun u hu => by
    obtain ⟨c, hc, hu⟩ := List.mem_flatten.1 hu
    exact hr.one c (List.mem_of_mem_drop hc) u hu
  have hrun1 : ∀ ty, (Builtin.append_ #[29, 29] ty #[.slice (some ⟨g, 0, none⟩) i cap, .slice (some A) (T.length - (i + 1)) (cap - (i + 1))]).run Tryz.prog w.drew = _ := fun ty =>
    run_append_room (P := Tryz.prog) (ty := ty) w.drew 29 70 inf Tryz.underlying29 hinf g i cap (r.flatten ++ tail).toArray hg A (T.length - (i + 1)) (cap - (i + 1)) ((r.drop (i + 1)).flatten) (by rw [hm1, hi2]) hsrc.out hone (by omega) (by rw [hi2, hm1]; simp only [List.size_toArray]; omega)
  have hE1 : (r.flatten ++ tail).take (i * 2) = (r.take i).flatten := by
    rw [← cells_take r i hrq, List.take_append_of_le_length (by rw [hfl]; omega)]
  rw [hi2] at hrun1
  simp only [List.toList_toArray, hE1] at hrun1
  have hi1 : i + (T.length - (i + 1)) = T.length - 1 := by omega
  rw [hi1] at hrun1
  have hm2 : ((r.take i).flatten ++ (r.drop (i + 1)).flatten).length = (T.length - 1) * 2 := by
    rw [List.length_append, hm1, cells_len (fun c hc => hrq c (List.mem_of_mem_take hc)), List.length_take, hrl]; omega
  have hm3 : ((r.flatten ++ tail).drop (i * 2 + ((r.drop (i + 1)).flatten).length)).length = (cap - (T.length - 1)) * 2 := by
    rw [List.length_drop, hsz, hm1]; omega
  generalize (r.flatten ++ tail).drop (i * 2 + ((r.drop (i + 1)).flatten).length) = rest at hrun1 hm3
  have hg1 : (w.drew.setRow g ((r.take i).flatten ++ (r.drop (i + 1)).flatten ++ rest).toArray).heap[g]? = some (.cells ((r.take i).flatten ++ (r.drop (i + 1)).flatten ++ rest).toArray 70 (0, 0)) := setRow_heap w.drew g _ _ _ _ hg
  have hc1 := chg_setRow w.drew g ((r.take i).flatten ++ (r.drop (i + 1)).flatten ++ rest).toArray
  generalize w.drew.setRow g ((r.take i).flatten ++ (r.drop (i + 1)).flatten ++ rest).toArray = W1 at hrun1 hg1 hc1
  have hzv : ∀ w, (zeroValue 70).run Tryz.prog w = .ok (.agg #[.string ⟨#[]⟩, .slice none 0 0]) w := fun w => by kernel_rfl
  have hcl : ∀ ty c, (Builtin.clear_ #[29] ty #[.slice (some ⟨g, (T.length - 1) * 2, none⟩) 1 c]).run Tryz.prog W1 = _ := fun ty c =>
    run_clear_at (P := Tryz.prog) (ty := ty) (c := c) W1 Tryz.underlying29 hzv (zs := [.string ⟨#[]⟩, .slice none 0 0]) zero_file hg1 (by rw [List.length_append, hm2, hm3]; simp; omega) (by simp [Value.oneCell'])
  rw [take_two hm2] at hcl
  generalize hrest : List.drop ((T.length - 1) * 2 + [Value.string ⟨#[]⟩, Value.slice none 0 0].length) ((r.take i).flatten ++ (r.drop (i + 1)).flatten ++ rest) = rest2 at hcl
  have hm4 : rest2.length = (cap - T.length) * 2 := by
    rw [← hrest, List.length_drop, List.length_append, hm2, hm3]; simp; omega
  have hg2 : (W1.setRow g ((r.take i).flatten ++ (r.drop (i + 1)).flatten ++ [Value.string ⟨#[]⟩, Value.slice none 0 0] ++ rest2).toArray).heap[g]? = some (.cells ((r.take i).flatten ++ (r.drop (i + 1)).flatten ++ [Value.string ⟨#[]⟩, Value.slice none 0 0] ++ rest2).toArray 70 (0, 0)) := setRow_heap W1 g _ _ _ _ hg1
  have hc2 := chg_setRow W1 g ((r.take i).flatten ++ (r.drop (i + 1)).flatten ++ [Value.string ⟨#[]⟩, Value.slice none 0 0] ++ rest2).toArray
  generalize W1.setRow g ((r.take i).flatten ++ (r.drop (i + 1)).flatten ++ [Value.string ⟨#[]⟩, Value.slice none 0 0] ++ rest2).toArray = W2 at hcl hg2 hc2
  have hcc : Chg (fun k => k = g) w W2 := ((Chg.refl (fun k => k = g) w).drew.trans hc1).trans hc2
  have hfin : Hid (OwnQ 70 w0 W2 (.slice (some ⟨g, 0, none⟩) (T.length - 1) cap) (dropAt T i) ∧ Chg (OwnB (.slice (some ⟨g, 0, none⟩) T.length cap)) w W2 ∧ (∀ k, (Value.slice (some ⟨g, 0, none⟩) (T.length - 1) cap).ownBlock = some k → (Value.slice (some ⟨g, 0, none⟩) T.length cap).ownBlock = some k)) := by
    have hdl : (dropAt T i).length = T.length - 1 := by unfold dropAt; rw [List.length_append, List.length_take, List.length_drop]; omega
    have hrr := ((hRow.out.take i).app (hRow.out.drop (i + 1))).keep (O'' := fun k => Old w0.heap.size k ∨ k = g) hcc (fun k _ hk => .inr hk) (fun k _ hk => hk)
    have := own_laid (e := 70) (w := W2) (O := Old w0.heap.size) (l := dropAt T i) (g := g) (cap := cap) (r := r.take i ++ r.drop (i + 1)) (tail := [Value.string ⟨#[]⟩, Value.slice none 0 0] ++ rest2) (by rw [List.flatten_append, ← List.append_assoc]; exact hg2)
      (by rw [List.flatten_append, List.length_append, hm2, List.length_append, hm4]; show _ = cap * 2; simp; omega) (by omega) (by unfold maxLen; omega) (fun h => absurd h (Nat.not_lt.2 hnew)) hrr
    rw [hdl] at this
    exact ⟨⟨this, fun k hk => by injection hk with hk; subst hk; exact hnew, hn.chg.trans' hcc (fun k hk h => by omega)⟩, hcc.mono (fun k _ h => by rw [h]; rfl), fun k h => h⟩
  clear hg hsz hr hrq hfl hsrc hone hm1 hm2 hm3 hm4 hE1 hg1 hg2 hc1 hc2 hcc hrest hRow hinf hzv hn hrl
  have h1 : ((i : Int) == (i : Int) + 1) = false := beq_eq_false_iff_ne.2 (by omega)
  have h2 : (T.length - 1 : Nat) + 1 = T.length := by omega
  have h3 : T.length - (T.length - 1) = 1 := by omega
  have h4 : ¬ cap = T.length - 1 := by omega
  have h5 : ((i : Int) + 1).toNat = i + 1 := by omega
  have h6 : i ≤ cap := by omega
  have h7 : i + 1 ≤ cap := by omega
  have h8 : (i : Int) + 1 ≤ T.length := by omega
  have h9 : (0 : Int) ≤ (i : Int) + 1 := by omega
  go_enter Tryz.func87, Tryz.ntmps87
  go_wp2_with fail
  refine wp_region_held_drew (S := fun _ => True) (by kernel_rfl) trivial (fun hH => ?_)
  refine' tk 0 ?_
  refine' tk 1 ?_
  refine' tk 2 ?_
  refine' tk 3 ?_
  refine' tk 4 ?_
  refine' tk 5 ?_
  refine wpAnyH_ready (rs := [6]) (by kernel_rfl) (by simp) ?_
  refine AllReadyH.cons rfl (fun K hK => ?_) AllReadyH.nil
  refine step_append_eq (by rfl) _ _ 29 29 (by rfl) _ _ (by rfl) (by rfl) (hrun1 _) ?_
  refine hK.out _ _ trivial (fun _ => ?_)
  clear hK K
  try simp only [Act.put, List.setIfInBounds_toArray, List.set_cons_zero, List.set_cons_succ]
  refine' tk 7 ?_
  refine wpAnyH_done (by kernel_rfl) ?_ _
  go_wp2_with fail
  go_ret
  exact ⟨_, rfl, hfin.out⟩
end Go.Proofs.YtmjpfoeaobdaeaaGreatDoor
