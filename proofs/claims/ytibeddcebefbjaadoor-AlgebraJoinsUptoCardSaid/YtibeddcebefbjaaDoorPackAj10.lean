/-
  AlgebraJoins holds, tied to the program's text: for all arguments of bulk at most 1048576 the law answers true, and its arguments read as before.
-/
import Derived.Test.YtibeddcebefbjaaDoorPackAj9
import Derived.Test.YtibeddcebefbjaaDoorPackAj6
import Derived.Test.YtibeddcebefbjaaDoorPackAj1
namespace Go.Proofs.YtibeddcebefbjaaDoor
open Go.RowKit

def twoF (t : List File) (p q : List Change) (D : List File) : Int := if (applyR t p).2.2 = 0 then (applyR D q).2.2 else (applyR t p).2.2
def twoC (t : List File) (p q : List Change) (D : List File) : List File := if (applyR t p).2.2 = 0 then (applyR D q).1 else []
def TwoPost (t : List File) (p q : List Change) (D : List File) (w : World) (e : Ending) (w' : World) : Prop :=
  ∃ rb rc, e = .returned (.tuple #[rb, rc, errV (twoF t p q D)]) ∧ Chg Never w w' ∧ Rdv w' Never rb (applyR t p).1 ∧ Rdv w' Never rc (twoC t p q D)
theorem joinOf_any (v : Value) (w : World) : Calls Tryd.prog 63 #[v] w fun e w' => e = .returned v ∧ Chg Never w w' := by
  go_enter Tryd.func63, Tryd.ntmps63
  go_wp2_with fail
  go_ret
  exact ⟨rfl, Chg.refl _ _⟩
theorem interOf_any (v u : Value) (a : Addr) (w : World) (h : w.cell? a = some u) : Calls Tryd.prog 64 #[v, .pointer (some a)] w fun e w' => e = .returned u ∧ Chg Never w w' := by
  go_enter Tryd.func64, Tryd.ntmps64
  go_wp2_with fail
  go_ret
  exact ⟨rfl, Chg.refl _ _⟩
set_option maxHeartbeats 2000000 in
set_option maxRecDepth 100000 in
theorem two_join (t : List File) (p q : List Change) (vt vp vq : Value) (w : World) (ht : Rdv w Never vt t) (hp : Rdv w Never vp p) (hq : Rdv w Never vq q) (m : Int) (hm : w.cell? ⟨1, 0, none⟩ = some (.int .i64 m)) :
    Calls Tryd.prog 62 #[vt, vp, vq, .func (.func 63) #[] #[]] w fun e w' => TwoPost t p q (applyR t p).1 w e w' := by
  go_enter Tryd.func62, Tryd.ntmps62
  go_wp2_with fail
  refine (apply_any t p _ _ _ ht hp m hm).mono ?_
  rintro e w1 ⟨r1, rfl, hw, hr1⟩
  by_cases z : (applyR t p).2.2 = 0
  · have HF : Hid (twoF t p q (applyR t p).1 = (applyR (applyR t p).1 q).2.2) := if_pos z
    have HC : Hid (twoC t p q (applyR t p).1 = (applyR (applyR t p).1 q).1) := if_pos z
    rw [z, errV_zero]
    clear z
    obtain ⟨ba, bc, rfl, _, _, _⟩ := rdv_slice hr1
    go_wp2_with (go_at_call 63; refine (joinOf_any _ _).mono ?_; rintro e w2 ⟨rfl, hcO⟩; have hw2 := hw.trans hcO)
    refine (apply_any (applyR t p).1 q _ _ _ (hr1.never hcO) (hq.never hw2) m (hw2.cellNever hm)).mono ?_
    rintro e w3 ⟨r3, rfl, hc3, hr3⟩
    have hr1 := hr1.never (hcO.trans hc3)
    have hwf := hw2.trans hc3
    obtain ⟨ca, cc, rfl, _, _, _⟩ := rdv_slice hr3
    by_cases y : (applyR (applyR t p).1 q).2.2 = 0
    · rw [y, errV_zero]
      have Y := Lib.hid y
      clear y
      go_wp2_with fail
      go_ret3
      exact ⟨_, _, by rw [HF.out, Y.out]; rfl, hwf, hr1, by rw [HC.out]; exact hr3⟩
    · rw [errV_pos y]
      have Y := Lib.hid y
      clear y
      go_wp2_with fail
      go_ret3
      exact ⟨_, _, by rw [HF.out, errV_pos Y.out]; rfl, hwf, hr1, by rw [HC.out]; exact hr3⟩
  · have HF : Hid (twoF t p q (applyR t p).1 = (applyR t p).2.2) := if_neg z
    have HC : Hid (twoC t p q (applyR t p).1 = []) := if_neg z
    have HB := Lib.hid (applyR_nil z)
    have Z := Lib.hid z
    rw [errV_pos z]
    clear z hr1
    go_wp2_with fail
    go_ret3
    exact ⟨_, _, by rw [HF.out, errV_pos Z.out]; rfl, hw, by rw [HB.out]; exact rdv_nil _ _, by rw [HC.out]; exact rdv_nil _ _⟩
set_option maxHeartbeats 2000000 in
set_option maxRecDepth 100000 in
theorem two_inter (t : List File) (p q : List Change) (vt vp vq : Value) (a : Addr) (w : World) (ht : Rdv w Never vt t) (hp : Rdv w Never vp p) (hq : Rdv w Never vq q) (ha : w.cell? a = some vt) (m : Int) (hm : w.cell? ⟨1, 0, none⟩ = some (.int .i64 m)) :
    Calls Tryd.prog 62 #[vt, vp, vq, .func (.func 64) #[] #[.pointer (some a)]] w fun e w' => TwoPost t p q t w e w' := by
  go_enter Tryd.func62, Tryd.ntmps62
  go_wp2_with fail
  refine (apply_any t p _ _ _ ht hp m hm).mono ?_
  rintro e w1 ⟨r1, rfl, hw, hr1⟩
  by_cases z : (applyR t p).2.2 = 0
  · have HF : Hid (twoF t p q t = (applyR t q).2.2) := if_pos z
    have HC : Hid (twoC t p q t = (applyR t q).1) := if_pos z
    rw [z, errV_zero]
    clear z
    obtain ⟨ba, bc, rfl, _, _, _⟩ := rdv_slice hr1
    go_wp2_with (go_at_call 64; refine (interOf_any _ _ _ _ (hw.cellNever ha)).mono ?_; rintro e w2 ⟨rfl, hcO⟩; have hw2 := hw.trans hcO)
    refine (apply_any t q _ _ _ (ht.never hw2) (hq.never hw2) m (hw2.cellNever hm)).mono ?_
    rintro e w3 ⟨r3, rfl, hc3, hr3⟩
    have hr1 := hr1.never (hcO.trans hc3)
    have hwf := hw2.trans hc3
    obtain ⟨ca, cc, rfl, _, _, _⟩ := rdv_slice hr3
    by_cases y : (applyR t q).2.2 = 0
    · rw [y, errV_zero]
      have Y := Lib.hid y
      clear y
      go_wp2_with fail
      go_ret3
      exact ⟨_, _, by rw [HF.out, Y.out]; rfl, hwf, hr1, by rw [HC.out]; exact hr3⟩
    · rw [errV_pos y]
      have Y := Lib.hid y
      clear y
      go_wp2_with fail
      go_ret3
      exact ⟨_, _, by rw [HF.out, errV_pos Y.out]; rfl, hwf, hr1, by rw [HC.out]; exact hr3⟩
  · have HF : Hid (twoF t p q t = (applyR t p).2.2) := if_neg z
    have HC : Hid (twoC t p q t = []) := if_neg z
    have HB := Lib.hid (applyR_nil z)
    have Z := Lib.hid z
    rw [errV_pos z]
    clear z hr1
    go_wp2_with fail
    go_ret3
    exact ⟨_, _, by rw [HF.out, errV_pos Z.out]; rfl, hw, by rw [HB.out]; exact rdv_nil _ _, by rw [HC.out]; exact rdv_nil _ _⟩
def joinFt (t : List File) (p q : List Change) (n : Int) : Int := if twoF t p q (applyR t p).1 = 0 then diffFault t (twoC t p q (applyR t p).1) n else twoF t p q (applyR t p).1
def joinRt (t : List File) (p q : List Change) (n : Int) : List Change := if twoF t p q (applyR t p).1 = 0 then diffR t (twoC t p q (applyR t p).1) n else []
def interF (t : List File) (p q : List Change) (n : Int) : Int := if twoF t p q t = 0 then diffFault (applyR t p).1 (twoC t p q t) n else twoF t p q t
def interR (t : List File) (p q : List Change) (n : Int) : List Change := if twoF t p q t = 0 then diffR (applyR t p).1 (twoC t p q t) n else []
set_option maxHeartbeats 2000000 in
set_option maxRecDepth 100000 in
theorem alg_join_any (t : List File) (p q : List Change) (n : Int) (vt vp vq : Value) (w : World) (ht : Rdv w Never vt t) (hp : Rdv w Never vp p) (hq : Rdv w Never vq q) (hn : I64 n) (m : Int) (hm : w.cell? ⟨1, 0, none⟩ = some (.int .i64 m)) :
    Calls Tryd.prog 29 #[vt, vp, vq, .int .i64 n] w fun e w' => ∃ r, e = .returned (.tuple #[r, errV (joinFt t p q n)]) ∧ Chg Never w w' ∧ Rdv w' Never r (joinRt t p q n) := by
  go_enter Tryd.func29, Tryd.ntmps29
  go_wp2_with fail
  refine (two_join t p q _ _ _ _ ht hp hq m hm).mono ?_
  rintro e w2 ⟨rb, rc, rfl, hw, hrb, hrc⟩
  by_cases z : twoF t p q (applyR t p).1 = 0
  · have HF : Hid (joinFt t p q n = diffFault t (twoC t p q (applyR t p).1) n) := if_pos z
    have HR : Hid (joinRt t p q n = diffR t (twoC t p q (applyR t p).1) n) := if_pos z
    rw [z, errV_zero]
    clear z
    go_wp2_with fail
    refine (diff_any t (twoC t p q (applyR t p).1) n _ _ _ (ht.never hw) hrc hn m (hw.cellNever hm)).mono ?_
    rintro e w3 ⟨r3, rfl, hc3, hr3⟩
    rw [← HF.out]
    rw [← HR.out] at hr3
    go_wp2_with fail
    go_ret2
    exact ⟨r3, rfl, hw.trans hc3, hr3⟩
  · have HF : Hid (joinFt t p q n = twoF t p q (applyR t p).1) := if_neg z
    have HR : Hid (joinRt t p q n = []) := if_neg z
    have Z := Lib.hid z
    rw [errV_pos z]
    clear z
    go_wp2_with fail
    go_ret2
    exact ⟨.slice none 0 0, by rw [HF.out, errV_pos Z.out]; rfl, hw, by rw [HR.out]; exact rdv_nil _ _⟩
set_option maxHeartbeats 2000000 in
set_option maxRecDepth 100000 in
theorem alg_inter_any (t : List File) (p q : List Change) (n : Int) (vt vp vq : Value) (w : World) (ht : Rdv w Never vt t) (hp : Rdv w Never vp p) (hq : Rdv w Never vq q) (hn : I64 n) (m : Int) (hm : w.cell? ⟨1, 0, none⟩ = some (.int .i64 m)) :
    Calls Tryd.prog 30 #[vt, vp, vq, .int .i64 n] w fun e w' => ∃ r, e = .returned (.tuple #[r, errV (interF t p q n)]) ∧ Chg Never w w' ∧ Rdv w' Never r (interR t p q n) := by
  obtain ⟨ta, tc, rfl, _, _, _⟩ := rdv_slice ht
  have hA : Chg Never w (w.alloc (.cells #[.slice ta t.length tc] 34)) := (Chg.refl Never w).alloc _
  have b0 : (w.alloc (.cells #[.slice ta t.length tc] 34)).cell? ⟨w.heap.size, 0, none⟩ = some (.slice ta t.length tc) := by simp only [World.cell?]; rw [heap_alloc_new]; rfl
  go_enter Tryd.func30, Tryd.ntmps30
  go_wp2_with fail
  refine (two_inter t p q _ _ _ _ _ (ht.never hA) (hp.never hA) (hq.never hA) b0 m (hA.cellNever hm)).mono ?_
  rintro e w2 ⟨rb, rc, rfl, hc2, hrb, hrc⟩
  have hw := hA.trans hc2
  clear hc2
  by_cases z : twoF t p q t = 0
  · have HF : Hid (interF t p q n = diffFault (applyR t p).1 (twoC t p q t) n) := if_pos z
    have HR : Hid (interR t p q n = diffR (applyR t p).1 (twoC t p q t) n) := if_pos z
    rw [z, errV_zero]
    clear z
    go_wp2_with fail
    refine (diff_any (applyR t p).1 (twoC t p q t) n _ _ _ hrb hrc hn m (hw.cellNever hm)).mono ?_
    rintro e w3 ⟨r3, rfl, hc3, hr3⟩
    rw [← HF.out]
    rw [← HR.out] at hr3
    go_wp2_with fail
    go_ret2
    exact ⟨r3, rfl, hw.trans hc3, hr3⟩
  · have HF : Hid (interF t p q n = twoF t p q t) := if_neg z
    have HR : Hid (interR t p q n = []) := if_neg z
    have Z := Lib.hid z
    rw [errV_pos z]
    clear z
    go_wp2_with fail
    go_ret2
    exact ⟨.slice none 0 0, by rw [HF.out, errV_pos Z.out]; rfl, hw, by rw [HR.out]; exact rdv_nil _ _⟩
end Go.Proofs.YtibeddcebefbjaaDoor
namespace Go.Proofs.YtibeddcebefbjaaDoor

/-- what was done leads from a tree to a tree -/
theorem apply_tree {t : List File} {p : List Change} (h : (applyR t p).2.2 = 0) : Tree t ∧ Tree (applyR t p).1 := by
  obtain ⟨_, h1, h2, h3, h4, h5⟩ := applyR_inv (t := t) (p := p) (b := (applyR t p).1) (k := (applyR t p).2.1) (Prod.ext rfl (Prod.ext rfl h))
  exact ⟨h1, leads_tree h1 h2 h3 h4 h5⟩
end Go.Proofs.YtibeddcebefbjaaDoor
namespace Go.Proofs.YtibeddcebefbjaaDoor
open Go.RowKit

theorem join_a : joinFt [] [⟨2, ⟨#[97]⟩, []⟩] [⟨2, ⟨#[98]⟩, []⟩] 3 = 0 ∧ (joinRt [] [⟨2, ⟨#[97]⟩, []⟩] [⟨2, ⟨#[98]⟩, []⟩] 3).length = 2 := by
  have h0 : twoF [] [⟨2, ⟨#[97]⟩, []⟩] [⟨2, ⟨#[98]⟩, []⟩] (applyR [] [⟨2, ⟨#[97]⟩, []⟩]).1 = 0 := by decide +kernel
  have h1 : twoC [] [⟨2, ⟨#[97]⟩, []⟩] [⟨2, ⟨#[98]⟩, []⟩] (applyR [] [⟨2, ⟨#[97]⟩, []⟩]).1 = [⟨⟨#[97]⟩, []⟩, ⟨⟨#[98]⟩, []⟩] := by decide +kernel
  have h2 : diffFault [] [⟨⟨#[97]⟩, []⟩, ⟨⟨#[98]⟩, []⟩] 3 = 0 := by decide +kernel
  unfold joinFt joinRt
  rw [if_pos h0, if_pos h0, h1, h2, diffR_ok h2, diffL, diffL, diffL_nil]
  exact ⟨rfl, rfl⟩
theorem diff_rng {a b : List File} {n : Int} (ha : Tree a) (hb : Tree b) (hn : n < 0 ∨ 1000 < n) : diffFault a b n = 1 := diffFault_n (tree_iff.1 ha) (tree_iff.1 hb) hn
theorem diff_fine {a b : List File} {n : Int} (ha : Tree a) (hb : Tree b) (h0 : 0 ≤ n) (h1 : n ≤ 1000) : diffFault a b n = 0 := diffFault_0 (tree_iff.1 ha) (tree_iff.1 hb) h0 h1
theorem joinFt_ok {t : List File} {p q : List Change} {n : Int} (h : (applyR t p).2.2 = 0) (g : (applyR (applyR t p).1 q).2.2 = 0) : joinFt t p q n = diffFault t (applyR (applyR t p).1 q).1 n ∧ joinRt t p q n = diffR t (applyR (applyR t p).1 q).1 n := by
  have e1 : twoF t p q (applyR t p).1 = 0 := by unfold twoF; rw [if_pos h, g]
  have e2 : twoC t p q (applyR t p).1 = (applyR (applyR t p).1 q).1 := if_pos h
  unfold joinFt joinRt
  rw [if_pos e1, if_pos e1, e2]
  exact ⟨rfl, rfl⟩
theorem inter_ok {t : List File} {p q : List Change} {n : Int} (h : (applyR t p).2.2 = 0) (g : (applyR t q).2.2 = 0) : interF t p q n = diffFault (applyR t p).1 (applyR t q).1 n ∧ interR t p q n = diffR (applyR t p).1 (applyR t q).1 n := by
  have e1 : twoF t p q t = 0 := by unfold twoF; rw [if_pos h, g]
  have e2 : twoC t p q t = (applyR t q).1 := if_pos h
  unfold interF interR
  rw [if_pos e1, if_pos e1, e2]
  exact ⟨rfl, rfl⟩
theorem lit_change {w : World} {k : Int} {p : ByteArray} (hp : p.size ≤ maxLen) : Rdv (w.alloc (.cells #[.int .i64 k, .string p, .slice none 0 0] 60)) Never (.slice (some ⟨w.heap.size, 0, none⟩) 1 1) [(⟨k, p, []⟩ : Change)] :=
  rdv_lit (e := 60) (cs := [.int .i64 k, .string p, .slice none 0 0]) (heap_alloc_new _ _) rfl (by decide) ⟨⟨.slice none 0 0, rfl, hp, rdv_nil _ _⟩, trivial⟩
set_option maxHeartbeats 8000000 in
set_option maxRecDepth 100000 in
theorem law_algebraJoins (t : List File) (p q : List Change) (n : Int) (vt vp vq : Value) (w : World) (ht : Rdv w Never vt t) (hp : Rdv w Never vp p) (hq : Rdv w Never vq q) (hn : I64 n) (m : Int) (hm : w.cell? ⟨1, 0, none⟩ = some (.int .i64 m)) :
    Calls Tryd.prog 9 #[vt, vp, vq, .int .i64 n] w fun e w' => e = .returned (.bool true) ∧ Chg Never w w' := by
  have hA1 : Chg Never w (w.alloc (.cells #[.int .i64 2, .string ⟨#[97]⟩, .slice none 0 0] 60)) := (Chg.refl Never w).alloc _
  have hA2 : Chg Never (w.alloc (.cells #[.int .i64 2, .string ⟨#[97]⟩, .slice none 0 0] 60)) ((w.alloc (.cells #[.int .i64 2, .string ⟨#[97]⟩, .slice none 0 0] 60)).alloc (.cells #[.int .i64 2, .string ⟨#[98]⟩, .slice none 0 0] 60)) := (Chg.refl Never _).alloc _
  have hL1 := (lit_change (w := w) (k := 2) (p := ⟨#[97]⟩) (by decide)).never hA2
  have hL2 := lit_change (w := w.alloc (.cells #[.int .i64 2, .string ⟨#[97]⟩, .slice none 0 0] 60)) (k := 2) (p := ⟨#[98]⟩) (by decide)
  rw [World.size_alloc] at hL2
  have hA := hA1.trans hA2
  go_enter Tryd.func9, Tryd.ntmps9
  go_wp2_with fail
  generalize (w.alloc (.cells #[.int .i64 2, .string ⟨#[97]⟩, .slice none 0 0] 60)).alloc (.cells #[.int .i64 2, .string ⟨#[98]⟩, .slice none 0 0] 60) = wA at hA hL1 hL2 ⊢
  clear hA1 hA2
  refine (alg_join_any [] _ _ 3 _ _ _ _ (rdv_nil _ _) hL1 hL2 (by unfold I64; omega) m (hA.cellNever hm)).mono ?_
  rintro e w1 ⟨r0, rfl, hc1, hr0⟩
  have hw := hA.trans hc1
  rw [join_a.1, errV_zero]
  obtain ⟨fa, fc, rfl, _, _, _⟩ := rdv_slice hr0
  rw [join_a.2]
  clear hr0 hL1 hL2 hA hc1
  go_wp2_with fail
  refine (apply_any t p _ _ _ (ht.never hw) (hp.never hw) m (hw.cellNever hm)).mono ?_
  rintro e w2 ⟨rb, rfl, hc2, hb⟩
  have hw := hw.trans hc2
  clear hc2
  by_cases z : (applyR t p).2.2 = 0
  · have Z1 := Lib.hid z
    have TT := Lib.hid (apply_tree z).1
    have TB := Lib.hid (apply_tree z).2
    rw [z, errV_zero]
    clear z
    obtain ⟨ba, bc, rfl, _, _, _⟩ := rdv_slice hb
    go_wp2_with fail
    refine (apply_any (applyR t p).1 q _ _ _ hb (hq.never hw) m (hw.cellNever hm)).mono ?_
    rintro e w3 ⟨r3, rfl, hc3, hr3⟩
    have hw := hw.trans hc3
    have hb := hb.never hc3
    clear hc3
    by_cases y : (applyR (applyR t p).1 q).2.2 = 0
    · have TC := Lib.hid (apply_tree y).2
      have HJ := Lib.hid (@joinFt_ok t p q n Z1.out y)
      rw [y, errV_zero]
      clear y
      obtain ⟨da, dc, rfl, _, _, _⟩ := rdv_slice hr3
      go_wp2_with fail
      refine (alg_join_any t p q n _ _ _ _ (ht.never hw) (hp.never hw) (hq.never hw) hn m (hw.cellNever hm)).mono ?_
      rintro e w4 ⟨r4, rfl, hc4, hr4⟩
      have hw := hw.trans hc4
      have hb := hb.never hc4
      have hr3 := hr3.never hc4
      rw [HJ.out.1]
      rw [HJ.out.2] at hr4
      clear hc4 HJ
      generalize hcc : (applyR (applyR t p).1 q).1 = c at hr3 hr4 TC ⊢
      clear hcc
      by_cases hr : n < 0 ∨ 1000 < n
      · rw [diff_rng TT.out TC.out hr, errV_pos (by decide)]
        rcases hr with hr | hr
        · go_wp2_with fail
          go_ret
          exact ⟨rfl, hw⟩
        · have r0 : ¬ n < 0 := by omega
          go_wp2_with fail
          go_ret
          exact ⟨rfl, hw⟩
      · have HD := diff_fine TT.out TC.out (n := n) (by omega) (by omega)
        have HM := Lib.hid (diff_makes TT.out TC.out (n := n) (by omega) (by omega))
        rw [diffR_ok HD] at hr4
        rw [HD, errV_zero]
        clear hr HD
        generalize diffL n t c = x at hr4 HM
        go_wp2_with fail
        refine (apply_any t x _ _ _ (ht.never hw) hr4 m (hw.cellNever hm)).mono ?_
        rintro e w5 ⟨r5, rfl, hc5, hr5⟩
        have hw := hw.trans hc5
        have hb := hb.never hc5
        have hr3 := hr3.never hc5
        rw [HM.out.1, errV_zero]
        rw [HM.out.1] at hr5
        clear hc5 hr4
        go_wp2_with fail
        refine (trees_any c c _ _ _ hr5 hr3).mono ?_
        rintro e w6 ⟨rfl, hc6⟩
        have hw := hw.trans hc6
        have hb := hb.never hc6
        rw [decide_eq_true rfl]
        clear hc6 hr5 hr3 HM
        go_wp2_with fail
        refine (apply_any t q _ _ _ (ht.never hw) (hq.never hw) m (hw.cellNever hm)).mono ?_
        rintro e wA ⟨rA, rfl, hcA, hrA⟩
        have hw := hw.trans hcA
        have hb := hb.never hcA
        clear hcA
        by_cases x : (applyR t q).2.2 = 0
        · have TCC := Lib.hid (apply_tree x).2
          have HI := Lib.hid (@inter_ok t p q n Z1.out x)
          rw [x, errV_zero]
          clear x
          obtain ⟨ca, cc, rfl, _, _, _⟩ := rdv_slice hrA
          go_wp2_with fail
          refine (alg_inter_any t p q n _ _ _ _ (ht.never hw) (hp.never hw) (hq.never hw) hn m (hw.cellNever hm)).mono ?_
          rintro e wB ⟨rB, rfl, hcB, hrB⟩
          have hw := hw.trans hcB
          have hb := hb.never hcB
          have hrA := hrA.never hcB
          rw [HI.out.1]
          rw [HI.out.2] at hrB
          clear hcB HI
          generalize (applyR t q).1 = c at hrA hrB TCC ⊢
          generalize (applyR t p).1 = b at hb hrB TB ⊢
          by_cases hr : n < 0 ∨ 1000 < n
          · rw [diff_rng TB.out TCC.out hr, errV_pos (by decide)]
            rcases hr with hr | hr
            · go_wp2_with fail
              go_ret
              exact ⟨rfl, hw⟩
            · have r0 : ¬ n < 0 := by omega
              go_wp2_with fail
              go_ret
              exact ⟨rfl, hw⟩
          · have HD := diff_fine TB.out TCC.out (n := n) (by omega) (by omega)
            have HM := Lib.hid (diff_makes TB.out TCC.out (n := n) (by omega) (by omega))
            have HP := Lib.hid (patch_ok (diff_leads TB.out TCC.out (n := n) (by omega) (by omega)).1)
            rw [diffR_ok HD] at hrB
            rw [HD, errV_zero]
            clear hr HD
            generalize diffL n b c = x at hrB HM HP
            have HT : Hid (turnPR x = turnP x) := turnPR_ok (by rw [HP.out])
            go_wp2_with fail
            refine (apply_any b x _ _ _ hb hrB m (hw.cellNever hm)).mono ?_
            rintro e wC ⟨rC, rfl, hcC, hrC⟩
            have hw := hw.trans hcC
            have hb := hb.never hcC
            have hrA := hrA.never hcC
            have hrB := hrB.never hcC
            rw [HM.out.1, errV_zero]
            rw [HM.out.1] at hrC
            clear hcC
            go_wp2_with fail
            refine (patch_turn_any x _ _ hrB m (hw.cellNever hm)).mono ?_
            rintro e wD ⟨rD, rfl, hcD, hrD⟩
            have hw := hw.trans hcD
            have hb := hb.never hcD
            have hrA := hrA.never hcD
            have hrC := hrC.never hcD
            rw [HP.out, errV_zero]
            rw [HT.out] at hrD
            clear hcD hrB
            go_wp2_with fail
            refine (apply_any c (turnP x) _ _ _ hrA hrD m (hw.cellNever hm)).mono ?_
            rintro e wE ⟨rE, rfl, hcE, hrE⟩
            have hw := hw.trans hcE
            have hb := hb.never hcE
            have hrA := hrA.never hcE
            have hrC := hrC.never hcE
            rw [HM.out.2, errV_zero]
            rw [HM.out.2] at hrE
            clear hcE hrD
            go_wp2_with fail
            refine (trees_any c c _ _ _ hrC hrA).mono ?_
            rintro e wF ⟨rfl, hcF⟩
            have hw := hw.trans hcF
            have hb := hb.never hcF
            have hrE := hrE.never hcF
            rw [decide_eq_true rfl]
            clear hcF hrC hrA
            go_wp2_with fail
            refine (trees_any b b _ _ _ hrE hb).mono ?_
            rintro e wG ⟨rfl, hcG⟩
            rw [decide_eq_true rfl]
            go_wp2_with fail
            go_ret
            exact ⟨rfl, hw.trans hcG⟩
        · rw [errV_pos x]
          clear x hrA
          go_wp2_with fail
          go_ret
          exact ⟨rfl, hw⟩
    · rw [errV_pos y]
      clear y hr3
      go_wp2_with fail
      refine (apply_any t q _ _ _ (ht.never hw) (hq.never hw) m (hw.cellNever hm)).mono ?_
      rintro e wA ⟨rA, rfl, hcA, hrA⟩
      have hw := hw.trans hcA
      have hb := hb.never hcA
      clear hcA
      by_cases x : (applyR t q).2.2 = 0
      · have TCC := Lib.hid (apply_tree x).2
        have HI := Lib.hid (@inter_ok t p q n Z1.out x)
        rw [x, errV_zero]
        clear x
        obtain ⟨ca, cc, rfl, _, _, _⟩ := rdv_slice hrA
        go_wp2_with fail
        refine (alg_inter_any t p q n _ _ _ _ (ht.never hw) (hp.never hw) (hq.never hw) hn m (hw.cellNever hm)).mono ?_
        rintro e wB ⟨rB, rfl, hcB, hrB⟩
        have hw := hw.trans hcB
        have hb := hb.never hcB
        have hrA := hrA.never hcB
        rw [HI.out.1]
        rw [HI.out.2] at hrB
        clear hcB HI
        generalize (applyR t q).1 = c at hrA hrB TCC ⊢
        generalize (applyR t p).1 = b at hb hrB TB ⊢
        by_cases hr : n < 0 ∨ 1000 < n
        · rw [diff_rng TB.out TCC.out hr, errV_pos (by decide)]
          rcases hr with hr | hr
          · go_wp2_with fail
            go_ret
            exact ⟨rfl, hw⟩
          · have r0 : ¬ n < 0 := by omega
            go_wp2_with fail
            go_ret
            exact ⟨rfl, hw⟩
        · have HD := diff_fine TB.out TCC.out (n := n) (by omega) (by omega)
          have HM := Lib.hid (diff_makes TB.out TCC.out (n := n) (by omega) (by omega))
          have HP := Lib.hid (patch_ok (diff_leads TB.out TCC.out (n := n) (by omega) (by omega)).1)
          rw [diffR_ok HD] at hrB
          rw [HD, errV_zero]
          clear hr HD
          generalize diffL n b c = x at hrB HM HP
          have HT : Hid (turnPR x = turnP x) := turnPR_ok (by rw [HP.out])
          go_wp2_with fail
          refine (apply_any b x _ _ _ hb hrB m (hw.cellNever hm)).mono ?_
          rintro e wC ⟨rC, rfl, hcC, hrC⟩
          have hw := hw.trans hcC
          have hb := hb.never hcC
          have hrA := hrA.never hcC
          have hrB := hrB.never hcC
          rw [HM.out.1, errV_zero]
          rw [HM.out.1] at hrC
          clear hcC
          go_wp2_with fail
          refine (patch_turn_any x _ _ hrB m (hw.cellNever hm)).mono ?_
          rintro e wD ⟨rD, rfl, hcD, hrD⟩
          have hw := hw.trans hcD
          have hb := hb.never hcD
          have hrA := hrA.never hcD
          have hrC := hrC.never hcD
          rw [HP.out, errV_zero]
          rw [HT.out] at hrD
          clear hcD hrB
          go_wp2_with fail
          refine (apply_any c (turnP x) _ _ _ hrA hrD m (hw.cellNever hm)).mono ?_
          rintro e wE ⟨rE, rfl, hcE, hrE⟩
          have hw := hw.trans hcE
          have hb := hb.never hcE
          have hrA := hrA.never hcE
          have hrC := hrC.never hcE
          rw [HM.out.2, errV_zero]
          rw [HM.out.2] at hrE
          clear hcE hrD
          go_wp2_with fail
          refine (trees_any c c _ _ _ hrC hrA).mono ?_
          rintro e wF ⟨rfl, hcF⟩
          have hw := hw.trans hcF
          have hb := hb.never hcF
          have hrE := hrE.never hcF
          rw [decide_eq_true rfl]
          clear hcF hrC hrA
          go_wp2_with fail
          refine (trees_any b b _ _ _ hrE hb).mono ?_
          rintro e wG ⟨rfl, hcG⟩
          rw [decide_eq_true rfl]
          go_wp2_with fail
          go_ret
          exact ⟨rfl, hw.trans hcG⟩
      · rw [errV_pos x]
        clear x hrA
        go_wp2_with fail
        go_ret
        exact ⟨rfl, hw⟩
  · rw [errV_pos z]
    clear z hb
    go_wp2_with fail
    go_ret
    exact ⟨rfl, hw⟩
end Go.Proofs.YtibeddcebefbjaaDoor
namespace Go.Proofs.YtibeddcebefbjaaDoor.lawAlgebraJoins
open Go.ChangeShapes Go.WideShapes Go.ChangeAt Go.RowKit

set_option maxRecDepth 100000 in
theorem contract (H : Type) (enc : TypeId × Value → H) (W : World) (base : Nat) (args : Array Value) (ds gs : List (DataW H)) (before : List MemPlace)
    (hval : ∀ (j : Nat) t v, Tryd.f9.params[j]? = some t → args[j]? = some v → Value.okWide Tryd.prog W .any base t v)
    (hW : DataW.Whole enc Tryd.prog Tryd.f9.params.toList Rows.algebraJoinsSpec.vars false W args.toList ds gs before) (hk : Rows.uptoSmall H (ds ++ gs) = true) (hL : laidMetH Tryd.prog Rows.algebraJoinsUptoRow.laid W) (hS : W.ShapedOpen Tryd.prog) :
    Calls Tryd.prog 9 args W fun e W' => ∃ v, e = .returned v ∧ Rows.algebraJoinsSpec.post enc Tryd.prog Tryd.f9 false true false false W args v W' := by
  skip
  obtain ⟨m, hm⟩ := maxlen_of hS
  have hW' := hW
  obtain ⟨p, q, hA0, hV, rfl, hfz, hnd⟩ := hW
  have hA : DataW.TrodAll enc Tryd.prog W 0 (fun _ => true) true Tryd.f9.params.toList args.toList ds p := hA0
  rw [Tryd.params9] at hA hval
  obtain ⟨v0, vs0, d0, ds0, p0, q0, hargs, rfl, rfl, h0, r0⟩ := trodAll_cons hA
  obtain ⟨v1, vs1, d1, ds1, p1, q1, rfl, rfl, rfl, h1, r1⟩ := trodAll_cons r0
  obtain ⟨v2, vs2, d2, ds2, p2, q2, rfl, rfl, rfl, h2, r2⟩ := trodAll_cons r1
  obtain ⟨v3, vs3, d3, ds3, p3, q3, rfl, rfl, rfl, h3, r3⟩ := trodAll_cons r2
  obtain ⟨rfl, rfl, rfl⟩ := trodAll_nil r3
  obtain rfl : args = #[v0, v1, v2, v3] := by cases args; simp_all
  obtain ⟨a0, len0, cap0, rfl⟩ := okWide_slice Tryd.underlying34 (hval 0 34 v0 rfl rfl)
  obtain ⟨a1, len1, cap1, rfl⟩ := okWide_slice Tryd.underlying51 (hval 1 51 v1 rfl rfl)
  obtain ⟨a2, len2, cap2, rfl⟩ := okWide_slice Tryd.underlying51 (hval 2 51 v2 rfl rfl)
  obtain ⟨u0, k0⟩ := h0
  obtain ⟨x0, hx0, hb0⟩ := opens_files _ _ _ _ _ _ _ _ _ _ k0
  obtain ⟨u1, k1⟩ := h1
  obtain ⟨x1, hx1, hb1⟩ := opens_changes _ _ _ _ _ _ _ _ _ _ k1
  obtain ⟨u2, k2⟩ := h2
  obtain ⟨x2, hx2, hb2⟩ := opens_changes _ _ _ _ _ _ _ _ _ _ k2
  obtain ⟨x3, rfl, rfl, rfl, wx3⟩ := open_int Tryd.underlying3 (hval 3 3 v3 rfl rfl) h3
  have hx3 := i64_of_wf wx3
  refine (law_algebraJoins x0 x1 x2 x3 _ _ _ W hx0 hx1 hx2 hx3 m hm).mono fun e W' he => ?_
  obtain ⟨he, hc⟩ := he
  subst he
  exact ⟨_, rfl, post_law hW' rfl rfl Tryd.underlying4 rfl laidOut (by decide +kernel) hc⟩

theorem reads (os : Os) {H : Type} (enc : TypeId × Value → H) : ∃ places, DataW.whole enc Tryd.prog ((laidWorldT os).forCall (fun _ _ => 0) ⟨#[], #[.slice none 0 0, .slice none 0 0, .slice none 0 0, .int .i64 0], []⟩).memory Tryd.f9.params.toList Rows.algebraJoinsSpec.vars false (#[.slice none 0 0, .slice none 0 0, .slice none 0 0, .int .i64 0] : Array Value).toList 8 = some ([.nil, .nil, .nil, .lit (.int .i64 0)], [], places) :=
  ⟨[], by kernel_rfl⟩
set_option maxRecDepth 100000 in
theorem liftedUpto (os : Os) (started : os.Started) (H : Type) (enc : TypeId × Value → H) (F : Stop.Interp) :
    ReturnsInHanded {} Tryd.checked os 9 .any ((Rows.OpenSpec.upto Rows.algebraJoinsSpec).preRow enc Tryd.prog Tryd.f9 Rows.algebraJoinsUptoRow.domain false Rows.algebraJoinsUptoRow.laid) (((Rows.OpenSpec.upto Rows.algebraJoinsSpec).at F).post enc Tryd.prog Tryd.f9 false true false false) := by
  obtain ⟨places, hx⟩ := reads os enc
  refine returnsInHanded_of_row (C := Tryd.checked) (s := Rows.OpenSpec.upto Rows.algebraJoinsSpec) own started (by kernel_rfl) Tryd.func9
    (witness_row_at (enc := enc) (C := Tryd.checked) false (laidWorldT os) #[.slice none 0 0, .slice none 0 0, .slice none 0 0, .int .i64 0] rfl (by kernel_rfl) (by kernel_rfl) (by kernel_rfl)
      (OpenSpec.preRow_of_cond 8 hx (by kernel_rfl) (fun k hk => by cases hk; kernel_rfl) (by kernel_rfl) (laidWorldT_met os _))) ?_
  intro W base args ds gs before hval hW _ hcond _ hL hS _
  exact contract H enc W base args ds gs before hval hW (hcond _ rfl) hL hS

theorem saidUpto : Rows.AlgebraJoinsUptoSaid :=
  OpenClaim.holds_of_cond 9 Tryd.f9 rfl rfl rfl rfl rfl rfl rfl ⟨rfl, rfl, rfl, rfl, rfl⟩ rfl rfl rfl rfl rfl (by kernel_rfl) Tryd.func9 (by kernel_rfl)
    (of_decide_eq_true (by kernel_rfl)) (by unfold Func.isWrapper; first | (rw [if_pos (by decide +kernel)]; kernel_rfl) | (rw [if_neg (by decide +kernel)]; exact ⟨rfl, rfl⟩))
    (fun os started H enc _ F => by rw [OpenClaim.pre_eq_preRow]; exact liftedUpto os started H enc F)

theorem plain (f : FuncId) (fn : Func) (hf : Tryd.pinned.checked.prog.funcNamed "handstitch/handstitchlaw2.AlgebraJoins" = some f) (hfn : Tryd.pinned.checked.prog.funcs[f]? = some fn) :
    true = Tryd.pinned.checked.prog.looks [] ∧ ∀ (j : Nat) t, fn.params[j]? = some t → Tryd.pinned.checked.prog.wantsStandIn t = false := by
  obtain rfl : f = 9 := Option.some.inj ((show Tryd.prog.funcNamed "handstitch/handstitchlaw2.AlgebraJoins" = some 9 by kernel_rfl).symm.trans hf) |>.symm
  obtain rfl : fn = Tryd.f9 := (Option.some.inj (Tryd.func9.symm.trans hfn)).symm
  refine ⟨by kernel_rfl, fun j t ht => ?_⟩
  rw [Tryd.params9] at ht
  have hm := Array.mem_of_getElem? ht
  simp only [List.mem_toArray, List.mem_cons, List.not_mem_nil, or_false] at hm
  clear ht
  repeat' (first | (rcases hm with rfl | hm) | subst hm)
  all_goals exact (show Tryd.prog.wantsStandIn _ = false by kernel_rfl)

theorem cardUpto : Rows.AlgebraJoinsUptoCardSaid :=
  Claim7.holds_tied_plain_at .later [] _ _ _ _ saidUpto (fun _ h => by cases h) (by kernel_rfl) (fun _ h => by cases h) algebraJoinsUpto_row_tie rfl ⟨rfl, rfl⟩ (by kernel_rfl) rfl plain (by kernel_rfl)
end Go.Proofs.YtibeddcebefbjaaDoor.lawAlgebraJoins
