/-
  SwapIs holds, tied to the program's text: for all arguments of bulk at most 1048576 the law answers true, and its arguments read as before.
-/
import Derived.Test.YtibeddcebefbjaaDoorPackSwap5
import Derived.Test.YtibeddcebefbjaaDoorPackSwap6
import Derived.Deep.RegionHeld3
import Derived.Test.YtibeddcebefbjaaDoorPackSwap1
namespace Go.Proofs.YtibeddcebefbjaaDoor
open Go.RowKit

theorem six_keep {w0 w w' : World} {a b c d e f : Addr} {x y z u v t : Value} (h : Chg Never w0 w ∧ w.cell? a = some x ∧ w.cell? b = some y ∧ w.cell? c = some z ∧ w.cell? d = some u ∧ w.cell? e = some v ∧ w.cell? f = some t) (hc : Chg Never w w') :
    Chg Never w0 w' ∧ w'.cell? a = some x ∧ w'.cell? b = some y ∧ w'.cell? c = some z ∧ w'.cell? d = some u ∧ w'.cell? e = some v ∧ w'.cell? f = some t :=
  ⟨h.1.trans hc, hc.cellNever h.2.1, hc.cellNever h.2.2.1, hc.cellNever h.2.2.2.1, hc.cellNever h.2.2.2.2.1, hc.cellNever h.2.2.2.2.2.1, hc.cellNever h.2.2.2.2.2.2⟩
theorem swapPost_okR {h k : Hunk} {w w' : World} {r1 r2 : Value} (z : swapFault h k = 0) (hw : Chg Never w w') (h1 : Rdv w' Never r1 (swapH h k).marks) (h2 : Rdv w' Never r2 (swapK h k).marks) :
    SwapPost h k w (.returned (.tuple #[.agg #[.int .i64 (swapK h k).old, .int .i64 (swapK h k).new, r2], .agg #[.int .i64 (swapH h k).old, .int .i64 (swapH h k).new, r1], .int .i64 0])) w' (.int .i64 (swapFault h k)) := by
  have e1 : swapFst h k = swapK h k := if_pos z
  have e2 : swapSnd h k = swapH h k := if_pos z
  exact ⟨r2, r1, by rw [e1, e2, z], hw, by rw [e1]; exact h2, by rw [e2]; exact h1⟩
theorem swapFault_restR {h k : Hunk} (z : hunk1 h = 0) (y : hunk1 k = 0) (c : aheadB h k ≠ behindB h k) : swapFault h k = pairFault (swapH h k) (swapK h k) := by
  have e2 : swapPre h k = 0 := by unfold swapPre; rw [pair_of z y, if_neg (by decide), if_neg c]
  unfold swapFault; rw [e2, if_neg (by decide)]
/-- one of the two boxes is moved by d -/
theorem moved_box {w : World} {B : Nat} {o n : Int} {z : Value} (h : Blk3 w B 24 (.int .i64 o) (.int .i64 n) z) (d : Int) :
    Blk3 ((w.setCell ⟨B, 0, none⟩ (.int .i64 (o + d))).setCell ⟨B, 1, none⟩ (.int .i64 (n + d))) B 24 (.int .i64 (o + d)) (.int .i64 (n + d)) z ∧ Chg (fun j => j = B) w ((w.setCell ⟨B, 0, none⟩ (.int .i64 (o + d))).setCell ⟨B, 1, none⟩ (.int .i64 (n + d))) :=
  ⟨(h.set0 _).set1 _, ((Chg.refl (fun j => j = B) w).setCell (p := ⟨B, 0, none⟩) (.inr rfl) _).setCell (p := ⟨B, 1, none⟩) (.inr rfl) _⟩
theorem swapMid_R {h k : Hunk} {w w4 W : World} {r1 r2 : Value} {O : Nat → Prop} (hw : Chg Never w w4) (hS : Chg O w4 W) (hO : ∀ j, O j → j = w.heap.size ∨ j = w.heap.size + 1)
    (hP : Blk3 W w.heap.size 24 (.int .i64 (swapH h k).old) (.int .i64 (swapH h k).new) r1) (hQ : Blk3 W (w.heap.size + 1) 24 (.int .i64 (swapK h k).old) (.int .i64 (swapK h k).new) r2)
    (h1 : Rdv w4 (fun j => w.heap.size ≤ j) r1 (swapH h k).marks) (h2 : Rdv w4 (fun j => w.heap.size ≤ j) r2 (swapK h k).marks)
    (hZ2 : Blk3 w4 (w.heap.size + 2) 24 (.int .i64 0) (.int .i64 0) (.slice none 0 0)) (hZ3 : Blk3 w4 (w.heap.size + 3) 24 (.int .i64 0) (.int .i64 0) (.slice none 0 0)) : SwapMid h k w W := by
  refine ⟨r1, r2, hw.trans' hS (fun i hi hh => by have := hO i hh; omega), hP, hQ, ?_, ?_, hZ2.keep hS (fun hh => by have := hO _ hh; omega), hZ3.keep hS (fun hh => by have := hO _ hh; omega)⟩
  · exact h1.keep hS (fun j _ hj => by have := hO j hj; omega) (fun j _ hj => hj.1)
  · exact h2.keep hS (fun j _ hj => by have := hO j hj; omega) (fun j _ hj => hj.1)
set_option maxHeartbeats 4000000 in
set_option maxRecDepth 100000 in
theorem refSwap_any (h k : Hunk) (hv kv : Value) (w : World) (hh : Rdv w Never hv h.marks) (hk : Rdv w Never kv k.marks) :
    Calls Tryd.prog 10 #[.agg #[.int .i64 h.old, .int .i64 h.new, hv], .agg #[.int .i64 k.old, .int .i64 k.new, kv]] w fun e w' => SwapPost h k w e w' (.int .i64 (swapFault h k)) := by
  obtain ⟨ha, hcap, rfl, _, _, _⟩ := rdv_slice hh
  obtain ⟨ka, kcap, rfl, _, _, _⟩ := rdv_slice hk
  obtain ⟨hA, hP, hQ, hZ2, hZ3⟩ := four_blk w 24 (.int .i64 h.old) (.int .i64 h.new) (.slice ha h.marks.length hcap) (.int .i64 k.old) (.int .i64 k.new) (.slice ka k.marks.length kcap) (.int .i64 0) (.int .i64 0) (.slice none 0 0) (.int .i64 0) (.int .i64 0) (.slice none 0 0) rfl
  have hh := (hh.sub (O' := fun j => w.heap.size ≤ j) (fun j hj h => by omega)).never hA
  have hk := (hk.sub (O' := fun j => w.heap.size ≤ j) (fun j hj h => by omega)).never hA
  go_enter Tryd.func10, Tryd.ntmps10
  go_upto_region 1 with fail
  generalize (((w.alloc (.cells #[.int .i64 h.old, .int .i64 h.new, .slice ha h.marks.length hcap] 24)).alloc (.cells #[.int .i64 k.old, .int .i64 k.new, .slice ka k.marks.length kcap] 24)).alloc (.cells #[.int .i64 0, .int .i64 0, .slice none 0 0] 24)).alloc (.cells #[.int .i64 0, .int .i64 0, .slice none 0 0] 24) = wA at hA hP hQ hZ2 hZ3 hh hk ⊢
  obtain ⟨p0, p1, p2⟩ := hP.cell
  have hr := rdv_one_hunk (t := 24) (hh.sub (O' := Never) (fun _ _ h => h.elim))
  have hsz := hZ3.lt
  go_wp2_with fail
  refine (refHunks_any [h] _ _ hr).mono ?_
  rintro e w1 ⟨rfl, hc1⟩
  have hc1 := ((Chg.refl Never wA).alloc _).trans hc1
  have hw := hA.trans hc1
  have hP := hP.keep hc1 (fun h => h)
  have hQ := hQ.keep hc1 (fun h => h)
  have hZ2 := hZ2.keep hc1 (fun h => h)
  have hZ3 := hZ3.keep hc1 (fun h => h)
  have hh := hh.never hc1
  have hk := hk.never hc1
  rw [show (hunksFault [h]).2 = hunk1 h from rfl]
  clear hr hc1 p0 p1 p2 hA
  by_cases z : hunk1 h = 0
  · have G1 := Lib.hid z
    obtain ⟨q0, q1, q2⟩ := hQ.cell
    have hr := rdv_one_hunk (t := 24) (hk.sub (O' := Never) (fun _ _ h => h.elim))
    rw [z]
    clear z
    go_wp2_with fail
    refine (refHunks_any [k] _ _ hr).mono ?_
    rintro e w2 ⟨rfl, hc2⟩
    have hc2 := ((Chg.refl Never w1).alloc _).trans hc2
    have hw := hw.trans hc2
    have hP := hP.keep hc2 (fun h => h)
    have hQ := hQ.keep hc2 (fun h => h)
    have hZ2 := hZ2.keep hc2 (fun h => h)
    have hZ3 := hZ3.keep hc2 (fun h => h)
    have hh := hh.never hc2
    have hk := hk.never hc2
    rw [show (hunksFault [k]).2 = hunk1 k from rfl]
    clear hr hc2 q0 q1 q2
    by_cases y : hunk1 k = 0
    · have G2 := Lib.hid y
      rw [y]
      clear y
      obtain ⟨a1, _, a3, a4, a5, a6⟩ := hunk1_zero G1.out
      obtain ⟨b1, _, b3, b4, b5, b6⟩ := hunk1_zero G2.out
      have A1 := Lib.hid a1
      have B1 := Lib.hid b1
      have a1 := scriptFault_len a1
      have b1 := scriptFault_len b1
      have a7 : 0 ≤ h.new := by omega
      have b7 : 0 ≤ k.new := by omega
      have l1 := oldN_le h.marks
      have l2 := newN_le h.marks
      have l3 := oldN_le k.marks
      have l4 := newN_le k.marks
      clear a5 b5
      have hhN := hh.sub (O' := Never) (fun _ _ h => h.elim)
      have hkN := hk.sub (O' := Never) (fun _ _ h => h.elim)
      obtain ⟨ab, hab⟩ : ∃ b, aheadB h k = b := ⟨_, rfl⟩
      obtain ⟨bb, hbb⟩ : ∃ b, behindB h k = b := ⟨_, rfl⟩
      unfold oldN at a4 b4 l1 l3
      unfold newN at a6 b6 l2 l4
      have t1 : decide (k.old + ((those k.marks 43).length : Int) ≤ h.new) = ab := hab
      have t2 : decide (h.new + ((those h.marks 45).length : Int) ≤ k.old) = bb := hbb
      have HAB := Lib.hid hab
      have HBB := Lib.hid hbb
      have e1 : IntKind.i64.wrap (k.old + ((those k.marks 43).length : Int)) = k.old + ((those k.marks 43).length : Int) := IntWalk.i64_in _ (by omega)
      have e2 : IntKind.i64.wrap (h.new + ((those h.marks 45).length : Int)) = h.new + ((those h.marks 45).length : Int) := IntWalk.i64_in _ (by omega)
      clear hab hbb
      go_wp2_with fail
      generalize hwz : w2 = wz at hw hP hQ hZ2 hZ3 hh hk hhN hkN ⊢
      clear hwz
      refine wp_region_held_drew (S := fun w' => Chg Never wz w' ∧ w'.cell? ⟨w.heap.size, 0, none⟩ = some (.int .i64 h.old) ∧ w'.cell? ⟨w.heap.size, 1, none⟩ = some (.int .i64 h.new) ∧ w'.cell? ⟨w.heap.size, 2, none⟩ = some (.slice ha h.marks.length hcap) ∧ w'.cell? ⟨w.heap.size + 1, 0, none⟩ = some (.int .i64 k.old) ∧ w'.cell? ⟨w.heap.size + 1, 1, none⟩ = some (.int .i64 k.new) ∧ w'.cell? ⟨w.heap.size + 1, 2, none⟩ = some (.slice ka k.marks.length kcap)) (by kernel_rfl) ⟨(Chg.refl Never wz).drew, hP.cell.1, hP.cell.2.1, hP.cell.2.2, hQ.cell.1, hQ.cell.2.1, hQ.cell.2.2⟩ (fun hH => ?_)
      refine' wpAnyH_take (i := 0) ?hi0 (by kernel_rfl) (by kernel_rfl) (by kernel_rfl) ?hQ0 (Or.inl ⟨?hw0, ?hy0⟩) (by assumption) ?_
      case hi0 => (simp only [List.getElem?_toArray, List.getElem?_cons_succ, List.getElem?_cons_zero]; rfl)
      case hQ0 => exact fun _ _ _ h => h
      case hw0 => rfl
      case hy0 => (intro w' hSw; (try dsimp only at hSw); go_simp; all_goals with_reducible rfl)
      try simp only [Act.put, List.setIfInBounds_toArray, List.set_cons_zero, List.set_cons_succ]
      refine' wpAnyH_take (i := 1) ?hi1 (by kernel_rfl) (by kernel_rfl) (by kernel_rfl) ?hQ1 (Or.inl ⟨?hw1, ?hy1⟩) (by assumption) ?_
      case hi1 => (simp only [List.getElem?_toArray, List.getElem?_cons_succ, List.getElem?_cons_zero]; rfl)
      case hQ1 => exact fun _ _ _ h => h
      case hw1 => rfl
      case hy1 => (intro w' hSw; (try dsimp only at hSw); go_simp; all_goals with_reducible rfl)
      try simp only [Act.put, List.setIfInBounds_toArray, List.set_cons_zero, List.set_cons_succ]
      refine' wpAnyH_take (i := 2) ?hi2 (by kernel_rfl) (by kernel_rfl) (by kernel_rfl) ?hQ2 (Or.inl ⟨?hw2, ?hy2⟩) (by assumption) ?_
      case hi2 => (simp only [List.getElem?_toArray, List.getElem?_cons_succ, List.getElem?_cons_zero]; rfl)
      case hQ2 => exact fun _ _ _ h => h
      case hw2 => rfl
      case hy2 => (intro w' hSw; (try dsimp only at hSw); go_simp; all_goals with_reducible rfl)
      try simp only [Act.put, List.setIfInBounds_toArray, List.set_cons_zero, List.set_cons_succ]
      refine' wpAnyH_take (i := 3) ?hi3 (by kernel_rfl) (by kernel_rfl) (by kernel_rfl) ?hQ3 (Or.inl ⟨?hw3, ?hy3⟩) (by assumption) ?_
      case hi3 => (simp only [List.getElem?_toArray, List.getElem?_cons_succ, List.getElem?_cons_zero]; rfl)
      case hQ3 => exact fun _ _ _ h => h
      case hw3 => rfl
      case hy3 => (intro w' hSw; (try dsimp only at hSw); go_simp; all_goals with_reducible rfl)
      try simp only [Act.put, List.setIfInBounds_toArray, List.set_cons_zero, List.set_cons_succ]
      refine' wpAnyH_take (i := 7) ?hi7 (by kernel_rfl) (by kernel_rfl) (by kernel_rfl) ?hQ7 (Or.inl ⟨?hw7, ?hy7⟩) (by assumption) ?_
      case hi7 => (simp only [List.getElem?_toArray, List.getElem?_cons_succ, List.getElem?_cons_zero]; rfl)
      case hQ7 => exact fun _ _ _ h => h
      case hw7 => rfl
      case hy7 => (intro w' hSw; (try dsimp only at hSw); go_simp; all_goals with_reducible rfl)
      try simp only [Act.put, List.setIfInBounds_toArray, List.set_cons_zero, List.set_cons_succ]
      refine' wpAnyH_take (i := 8) ?hi8 (by kernel_rfl) (by kernel_rfl) (by kernel_rfl) ?hQ8 (Or.inl ⟨?hw8, ?hy8⟩) (by assumption) ?_
      case hi8 => (simp only [List.getElem?_toArray, List.getElem?_cons_succ, List.getElem?_cons_zero]; rfl)
      case hQ8 => exact fun _ _ _ h => h
      case hw8 => rfl
      case hy8 => (intro w' hSw; (try dsimp only at hSw); go_simp; all_goals with_reducible rfl)
      try simp only [Act.put, List.setIfInBounds_toArray, List.set_cons_zero, List.set_cons_succ]
      refine wpAnyH_ready (rs := [4]) (by kernel_rfl) (by simp) ?_
      refine AllReadyH.cons rfl (fun K hK => ?_) AllReadyH.nil
      go_simp
      (go_at_call 32; refine (refOld_any (k).marks _ _ (hkN.never (And.left (by assumption))) B1.out).mono ?_; rintro e wq ⟨rq, rfl, hcq, hrq⟩; obtain ⟨qa, qc, rfl, _, _, _⟩ := rdv_slice hrq; clear hrq; have hS2 := six_keep (by assumption) hcq)
      try go_wp2_with fail
      refine hK.out _ _ ?_ (fun hH => ?_)
      · assumption
      clear hK K
      try simp only [Act.put, List.setIfInBounds_toArray, List.set_cons_zero, List.set_cons_succ]
      refine' wpAnyH_take (i := 5) ?hi5 (by kernel_rfl) (by kernel_rfl) (by kernel_rfl) ?hQ5 (Or.inl ⟨?hw5, ?hy5⟩) (by assumption) ?_
      case hi5 => (simp only [List.getElem?_toArray, List.getElem?_cons_succ, List.getElem?_cons_zero]; rfl)
      case hQ5 => exact fun _ _ _ h => h
      case hw5 => rfl
      case hy5 => (intro w' hSw; (try dsimp only at hSw); go_simp; all_goals with_reducible rfl)
      try simp only [Act.put, List.setIfInBounds_toArray, List.set_cons_zero, List.set_cons_succ]
      refine' wpAnyH_take (i := 6) ?hi6 (by kernel_rfl) (by kernel_rfl) (by kernel_rfl) ?hQ6 (Or.inl ⟨?hw6, ?hy6⟩) (by assumption) ?_
      case hi6 => (simp only [List.getElem?_toArray, List.getElem?_cons_succ, List.getElem?_cons_zero]; rfl)
      case hQ6 => exact fun _ _ _ h => h
      case hw6 => rfl
      case hy6 => (intro w' hSw; (try dsimp only at hSw); go_simp; all_goals with_reducible rfl)
      try simp only [Act.put, List.setIfInBounds_toArray, List.set_cons_zero, List.set_cons_succ]
      refine' wpAnyH_take (i := 9) ?hi9 (by kernel_rfl) (by kernel_rfl) (by kernel_rfl) ?hQ9 (Or.inl ⟨?hw9, ?hy9⟩) (by assumption) ?_
      case hi9 => (simp only [List.getElem?_toArray, List.getElem?_cons_succ, List.getElem?_cons_zero]; rfl)
      case hQ9 => exact fun _ _ _ h => h
      case hw9 => rfl
      case hy9 => (intro w' hSw; (try dsimp only at hSw); go_simp; all_goals with_reducible rfl)
      try simp only [Act.put, List.setIfInBounds_toArray, List.set_cons_zero, List.set_cons_succ]
      refine' wpAnyH_take (i := 10) ?hi10 (by kernel_rfl) (by kernel_rfl) (by kernel_rfl) ?hQ10 (Or.inl ⟨?hw10, ?hy10⟩) (by assumption) ?_
      case hi10 => (simp only [List.getElem?_toArray, List.getElem?_cons_succ, List.getElem?_cons_zero]; rfl)
      case hQ10 => exact fun _ _ _ h => h
      case hw10 => rfl
      case hy10 => (intro w' hSw; (try dsimp only at hSw); go_simp; all_goals with_reducible rfl)
      try simp only [Act.put, List.setIfInBounds_toArray, List.set_cons_zero, List.set_cons_succ]
      refine wpAnyH_done (by kernel_rfl) ?_ _
      have hcz := hH.1
      clear hH
      have hw := hw.trans hcz
      have hP := hP.keep hcz (fun h => h)
      have hQ := hQ.keep hcz (fun h => h)
      have hZ2 := hZ2.keep hcz (fun h => h)
      have hZ3 := hZ3.keep hcz (fun h => h)
      have hh := hh.never hcz
      have hk := hk.never hcz
      have hhN := hhN.never hcz
      have hkN := hkN.never hcz
      clear hcz
      try clear hS2
      go_wp2_with fail
      generalize hwz : wq = wz at hw hP hQ hZ2 hZ3 hh hk hhN hkN ⊢
      clear hwz
      refine wp_region_held_drew (S := fun w' => Chg Never wz w' ∧ w'.cell? ⟨w.heap.size, 0, none⟩ = some (.int .i64 h.old) ∧ w'.cell? ⟨w.heap.size, 1, none⟩ = some (.int .i64 h.new) ∧ w'.cell? ⟨w.heap.size, 2, none⟩ = some (.slice ha h.marks.length hcap) ∧ w'.cell? ⟨w.heap.size + 1, 0, none⟩ = some (.int .i64 k.old) ∧ w'.cell? ⟨w.heap.size + 1, 1, none⟩ = some (.int .i64 k.new) ∧ w'.cell? ⟨w.heap.size + 1, 2, none⟩ = some (.slice ka k.marks.length kcap)) (by kernel_rfl) ⟨(Chg.refl Never wz).drew, hP.cell.1, hP.cell.2.1, hP.cell.2.2, hQ.cell.1, hQ.cell.2.1, hQ.cell.2.2⟩ (fun hH => ?_)
      refine' wpAnyH_take (i := 0) ?hi0 (by kernel_rfl) (by kernel_rfl) (by kernel_rfl) ?hQ0 (Or.inl ⟨?hw0, ?hy0⟩) (by assumption) ?_
      case hi0 => (simp only [List.getElem?_toArray, List.getElem?_cons_succ, List.getElem?_cons_zero]; rfl)
      case hQ0 => exact fun _ _ _ h => h
      case hw0 => rfl
      case hy0 => (intro w' hSw; (try dsimp only at hSw); go_simp; all_goals with_reducible rfl)
      try simp only [Act.put, List.setIfInBounds_toArray, List.set_cons_zero, List.set_cons_succ]
      refine' wpAnyH_take (i := 1) ?hi1 (by kernel_rfl) (by kernel_rfl) (by kernel_rfl) ?hQ1 (Or.inl ⟨?hw1, ?hy1⟩) (by assumption) ?_
      case hi1 => (simp only [List.getElem?_toArray, List.getElem?_cons_succ, List.getElem?_cons_zero]; rfl)
      case hQ1 => exact fun _ _ _ h => h
      case hw1 => rfl
      case hy1 => (intro w' hSw; (try dsimp only at hSw); go_simp; all_goals with_reducible rfl)
      try simp only [Act.put, List.setIfInBounds_toArray, List.set_cons_zero, List.set_cons_succ]
      refine' wpAnyH_take (i := 2) ?hi2 (by kernel_rfl) (by kernel_rfl) (by kernel_rfl) ?hQ2 (Or.inl ⟨?hw2, ?hy2⟩) (by assumption) ?_
      case hi2 => (simp only [List.getElem?_toArray, List.getElem?_cons_succ, List.getElem?_cons_zero]; rfl)
      case hQ2 => exact fun _ _ _ h => h
      case hw2 => rfl
      case hy2 => (intro w' hSw; (try dsimp only at hSw); go_simp; all_goals with_reducible rfl)
      try simp only [Act.put, List.setIfInBounds_toArray, List.set_cons_zero, List.set_cons_succ]
      refine' wpAnyH_take (i := 3) ?hi3 (by kernel_rfl) (by kernel_rfl) (by kernel_rfl) ?hQ3 (Or.inl ⟨?hw3, ?hy3⟩) (by assumption) ?_
      case hi3 => (simp only [List.getElem?_toArray, List.getElem?_cons_succ, List.getElem?_cons_zero]; rfl)
      case hQ3 => exact fun _ _ _ h => h
      case hw3 => rfl
      case hy3 => (intro w' hSw; (try dsimp only at hSw); go_simp; all_goals with_reducible rfl)
      try simp only [Act.put, List.setIfInBounds_toArray, List.set_cons_zero, List.set_cons_succ]
      refine' wpAnyH_take (i := 4) ?hi4 (by kernel_rfl) (by kernel_rfl) (by kernel_rfl) ?hQ4 (Or.inl ⟨?hw4, ?hy4⟩) (by assumption) ?_
      case hi4 => (simp only [List.getElem?_toArray, List.getElem?_cons_succ, List.getElem?_cons_zero]; rfl)
      case hQ4 => exact fun _ _ _ h => h
      case hw4 => rfl
      case hy4 => (intro w' hSw; (try dsimp only at hSw); go_simp; all_goals with_reducible rfl)
      try simp only [Act.put, List.setIfInBounds_toArray, List.set_cons_zero, List.set_cons_succ]
      refine' wpAnyH_take (i := 5) ?hi5 (by kernel_rfl) (by kernel_rfl) (by kernel_rfl) ?hQ5 (Or.inl ⟨?hw5, ?hy5⟩) (by assumption) ?_
      case hi5 => (simp only [List.getElem?_toArray, List.getElem?_cons_succ, List.getElem?_cons_zero]; rfl)
      case hQ5 => exact fun _ _ _ h => h
      case hw5 => rfl
      case hy5 => (intro w' hSw; (try dsimp only at hSw); go_simp; all_goals with_reducible rfl)
      try simp only [Act.put, List.setIfInBounds_toArray, List.set_cons_zero, List.set_cons_succ]
      refine wpAnyH_ready (rs := [6]) (by kernel_rfl) (by simp) ?_
      refine AllReadyH.cons rfl (fun K hK => ?_) AllReadyH.nil
      go_simp
      (go_at_call 33; refine (refNew_any (h).marks _ _ (hhN.never (And.left (by assumption))) A1.out).mono ?_; rintro e wq ⟨rq, rfl, hcq, hrq⟩; obtain ⟨qa, qc, rfl, _, _, _⟩ := rdv_slice hrq; clear hrq; have hS2 := six_keep (by assumption) hcq)
      try go_wp2_with fail
      refine hK.out _ _ ?_ (fun hH => ?_)
      · assumption
      clear hK K
      try simp only [Act.put, List.setIfInBounds_toArray, List.set_cons_zero, List.set_cons_succ]
      refine' wpAnyH_take (i := 7) ?hi7 (by kernel_rfl) (by kernel_rfl) (by kernel_rfl) ?hQ7 (Or.inl ⟨?hw7, ?hy7⟩) (by assumption) ?_
      case hi7 => (simp only [List.getElem?_toArray, List.getElem?_cons_succ, List.getElem?_cons_zero]; rfl)
      case hQ7 => exact fun _ _ _ h => h
      case hw7 => rfl
      case hy7 => (intro w' hSw; (try dsimp only at hSw); go_simp; all_goals with_reducible rfl)
      try simp only [Act.put, List.setIfInBounds_toArray, List.set_cons_zero, List.set_cons_succ]
      refine' wpAnyH_take (i := 8) ?hi8 (by kernel_rfl) (by kernel_rfl) (by kernel_rfl) ?hQ8 (Or.inl ⟨?hw8, ?hy8⟩) (by assumption) ?_
      case hi8 => (simp only [List.getElem?_toArray, List.getElem?_cons_succ, List.getElem?_cons_zero]; rfl)
      case hQ8 => exact fun _ _ _ h => h
      case hw8 => rfl
      case hy8 => (intro w' hSw; (try dsimp only at hSw); go_simp; all_goals with_reducible rfl)
      try simp only [Act.put, List.setIfInBounds_toArray, List.set_cons_zero, List.set_cons_succ]
      refine' wpAnyH_take (i := 9) ?hi9 (by kernel_rfl) (by kernel_rfl) (by kernel_rfl) ?hQ9 (Or.inl ⟨?hw9, ?hy9⟩) (by assumption) ?_
      case hi9 => (simp only [List.getElem?_toArray, List.getElem?_cons_succ, List.getElem?_cons_zero]; rfl)
      case hQ9 => exact fun _ _ _ h => h
      case hw9 => rfl
      case hy9 => (intro w' hSw; (try dsimp only at hSw); go_simp; all_goals with_reducible rfl)
      try simp only [Act.put, List.setIfInBounds_toArray, List.set_cons_zero, List.set_cons_succ]
      refine' wpAnyH_take (i := 10) ?hi10 (by kernel_rfl) (by kernel_rfl) (by kernel_rfl) ?hQ10 (Or.inl ⟨?hw10, ?hy10⟩) (by assumption) ?_
      case hi10 => (simp only [List.getElem?_toArray, List.getElem?_cons_succ, List.getElem?_cons_zero]; rfl)
      case hQ10 => exact fun _ _ _ h => h
      case hw10 => rfl
      case hy10 => (intro w' hSw; (try dsimp only at hSw); go_simp; all_goals with_reducible rfl)
      try simp only [Act.put, List.setIfInBounds_toArray, List.set_cons_zero, List.set_cons_succ]
      refine wpAnyH_done (by kernel_rfl) ?_ _
      have hcz := hH.1
      clear hH
      have hw := hw.trans hcz
      have hP := hP.keep hcz (fun h => h)
      have hQ := hQ.keep hcz (fun h => h)
      have hZ2 := hZ2.keep hcz (fun h => h)
      have hZ3 := hZ3.keep hcz (fun h => h)
      have hh := hh.never hcz
      have hk := hk.never hcz
      have hhN := hhN.never hcz
      have hkN := hkN.never hcz
      clear hcz
      try clear hS2
      clear t1 t2 e1 e2
      by_cases c : ab = bb
      · have HF := Lib.hid (swapFault_clash G1.out G2.out (by rw [HAB.out, HBB.out, c]))
        have c0 : (ab == bb) = true := by rw [c]; simp
        clear c
        obtain ⟨z0, z1, z2⟩ := hZ2.cell
        obtain ⟨y0, y1, y2⟩ := hZ3.cell
        have zf := hZ2.free
        have yf := hZ3.free
        have S0 := cell_put_same z0
        have S1 := cell_put_same z1
        have S2 := cell_put_same z2
        have S3 := cell_put_same y0
        have S4 := cell_put_same y1
        have S5 := cell_put_same y2
        go_wp2_with fail
        refine bodyPost_ret (v := .tuple #[.agg #[.int .i64 0, .int .i64 0, .slice none 0 0], .agg #[.int .i64 0, .int .i64 0, .slice none 0 0], .int .i64 (6)]) (by simp [results, Tryd.results10, go_sem, z0, z1, z2, y0, y1, y2]) rfl ?_
        rw [HF.out]
        exact swapPost_err (by rw [HF.out]; decide) hw
      · have c0 : (ab == bb) = false := by simpa using c
        have HNE : Hid (aheadB h k ≠ behindB h k) := by unfold Hid; rw [HAB.out, HBB.out]; exact c
        have HF := Lib.hid (swapFault_restR G1.out G2.out HNE.out)
        clear c
        generalize hwz : wq = wz at hw hP hQ hZ2 hZ3 hh hk hhN hkN ⊢
        clear hwz
        go_upto_if 57 with fail
        go_cut [11, 12] from 57 (fun _ _ wx => Hid (SwapMid h k w wx))
        case first =>
          cases ab with
          | true =>
            have HSH : Hid (swapH h k = ⟨h.old + ((newN k.marks : Int) - oldN k.marks), h.new + ((newN k.marks : Int) - oldN k.marks), h.marks⟩) := if_pos HAB.out
            have HSK : Hid (swapK h k = k) := if_pos HAB.out
            have e1 : IntKind.i64.wrap (((those k.marks 45).length : Int) - ((those k.marks 43).length : Int)) = ((those k.marks 45).length : Int) - ((those k.marks 43).length : Int) := IntWalk.i64_in _ (by omega)
            go_wp2_with fail
            refine wp_region_held_drew (S := fun w' => Chg Never wz w' ∧ w'.cell? ⟨w.heap.size, 0, none⟩ = some (.int .i64 h.old) ∧ w'.cell? ⟨w.heap.size, 1, none⟩ = some (.int .i64 h.new) ∧ w'.cell? ⟨w.heap.size, 2, none⟩ = some (.slice ha h.marks.length hcap) ∧ w'.cell? ⟨w.heap.size + 1, 0, none⟩ = some (.int .i64 k.old) ∧ w'.cell? ⟨w.heap.size + 1, 1, none⟩ = some (.int .i64 k.new) ∧ w'.cell? ⟨w.heap.size + 1, 2, none⟩ = some (.slice ka k.marks.length kcap)) (by kernel_rfl) ⟨(Chg.refl Never wz).drew, hP.cell.1, hP.cell.2.1, hP.cell.2.2, hQ.cell.1, hQ.cell.2.1, hQ.cell.2.2⟩ (fun hH => ?_)
            refine' wpAnyH_take (i := 0) ?hi0 (by kernel_rfl) (by kernel_rfl) (by kernel_rfl) ?hQ0 (Or.inl ⟨?hw0, ?hy0⟩) (by assumption) ?_
            case hi0 => (simp only [List.getElem?_toArray, List.getElem?_cons_succ, List.getElem?_cons_zero]; rfl)
            case hQ0 => exact fun _ _ _ h => h
            case hw0 => rfl
            case hy0 => (intro w' hSw; (try dsimp only at hSw); go_simp; all_goals with_reducible rfl)
            try simp only [Act.put, List.setIfInBounds_toArray, List.set_cons_zero, List.set_cons_succ]
            refine' wpAnyH_take (i := 1) ?hi1 (by kernel_rfl) (by kernel_rfl) (by kernel_rfl) ?hQ1 (Or.inl ⟨?hw1, ?hy1⟩) (by assumption) ?_
            case hi1 => (simp only [List.getElem?_toArray, List.getElem?_cons_succ, List.getElem?_cons_zero]; rfl)
            case hQ1 => exact fun _ _ _ h => h
            case hw1 => rfl
            case hy1 => (intro w' hSw; (try dsimp only at hSw); go_simp; all_goals with_reducible rfl)
            try simp only [Act.put, List.setIfInBounds_toArray, List.set_cons_zero, List.set_cons_succ]
            refine' wpAnyH_take (i := 4) ?hi4 (by kernel_rfl) (by kernel_rfl) (by kernel_rfl) ?hQ4 (Or.inl ⟨?hw4, ?hy4⟩) (by assumption) ?_
            case hi4 => (simp only [List.getElem?_toArray, List.getElem?_cons_succ, List.getElem?_cons_zero]; rfl)
            case hQ4 => exact fun _ _ _ h => h
            case hw4 => rfl
            case hy4 => (intro w' hSw; (try dsimp only at hSw); go_simp; all_goals with_reducible rfl)
            try simp only [Act.put, List.setIfInBounds_toArray, List.set_cons_zero, List.set_cons_succ]
            refine' wpAnyH_take (i := 5) ?hi5 (by kernel_rfl) (by kernel_rfl) (by kernel_rfl) ?hQ5 (Or.inl ⟨?hw5, ?hy5⟩) (by assumption) ?_
            case hi5 => (simp only [List.getElem?_toArray, List.getElem?_cons_succ, List.getElem?_cons_zero]; rfl)
            case hQ5 => exact fun _ _ _ h => h
            case hw5 => rfl
            case hy5 => (intro w' hSw; (try dsimp only at hSw); go_simp; all_goals with_reducible rfl)
            try simp only [Act.put, List.setIfInBounds_toArray, List.set_cons_zero, List.set_cons_succ]
            refine wpAnyH_ready (rs := [2]) (by kernel_rfl) (by simp) ?_
            refine AllReadyH.cons rfl (fun K hK => ?_) AllReadyH.nil
            go_simp
            (go_at_call 33; refine (refNew_any (k).marks _ _ (hkN.never (And.left (by assumption))) B1.out).mono ?_; rintro e wq ⟨rq, rfl, hcq, hrq⟩; obtain ⟨qa, qc, rfl, _, _, _⟩ := rdv_slice hrq; clear hrq; have hS2 := six_keep (by assumption) hcq)
            try go_wp2_with fail
            refine hK.out _ _ ?_ (fun hH => ?_)
            · assumption
            clear hK K
            try simp only [Act.put, List.setIfInBounds_toArray, List.set_cons_zero, List.set_cons_succ]
            refine' wpAnyH_take (i := 3) ?hi3 (by kernel_rfl) (by kernel_rfl) (by kernel_rfl) ?hQ3 (Or.inl ⟨?hw3, ?hy3⟩) (by assumption) ?_
            case hi3 => (simp only [List.getElem?_toArray, List.getElem?_cons_succ, List.getElem?_cons_zero]; rfl)
            case hQ3 => exact fun _ _ _ h => h
            case hw3 => rfl
            case hy3 => (intro w' hSw; (try dsimp only at hSw); go_simp; all_goals with_reducible rfl)
            try simp only [Act.put, List.setIfInBounds_toArray, List.set_cons_zero, List.set_cons_succ]
            refine wpAnyH_ready (rs := [6]) (by kernel_rfl) (by simp) ?_
            refine AllReadyH.cons rfl (fun K hK => ?_) AllReadyH.nil
            go_simp
            (go_at_call 32; refine (refOld_any (k).marks _ _ (hkN.never (And.left (by assumption))) B1.out).mono ?_; rintro e wq ⟨rq, rfl, hcq, hrq⟩; obtain ⟨qa, qc, rfl, _, _, _⟩ := rdv_slice hrq; clear hrq; have hS2 := six_keep (by assumption) hcq)
            try go_wp2_with fail
            refine hK.out _ _ ?_ (fun hH => ?_)
            · assumption
            clear hK K
            try simp only [Act.put, List.setIfInBounds_toArray, List.set_cons_zero, List.set_cons_succ]
            refine' wpAnyH_take (i := 7) ?hi7 (by kernel_rfl) (by kernel_rfl) (by kernel_rfl) ?hQ7 (Or.inl ⟨?hw7, ?hy7⟩) (by assumption) ?_
            case hi7 => (simp only [List.getElem?_toArray, List.getElem?_cons_succ, List.getElem?_cons_zero]; rfl)
            case hQ7 => exact fun _ _ _ h => h
            case hw7 => rfl
            case hy7 => (intro w' hSw; (try dsimp only at hSw); go_simp; all_goals with_reducible rfl)
            try simp only [Act.put, List.setIfInBounds_toArray, List.set_cons_zero, List.set_cons_succ]
            refine' wpAnyH_take (i := 8) ?hi8 (by kernel_rfl) (by kernel_rfl) (by kernel_rfl) ?hQ8 (Or.inl ⟨?hw8, ?hy8⟩) (by assumption) ?_
            case hi8 => (simp only [List.getElem?_toArray, List.getElem?_cons_succ, List.getElem?_cons_zero]; rfl)
            case hQ8 => exact fun _ _ _ h => h
            case hw8 => rfl
            case hy8 => (intro w' hSw; (try dsimp only at hSw); go_simp; all_goals with_reducible rfl)
            try simp only [Act.put, List.setIfInBounds_toArray, List.set_cons_zero, List.set_cons_succ]
            refine' wpAnyH_take (i := 9) ?hi9 (by kernel_rfl) (by kernel_rfl) (by kernel_rfl) ?hQ9 (Or.inl ⟨?hw9, ?hy9⟩) (by assumption) ?_
            case hi9 => (simp only [List.getElem?_toArray, List.getElem?_cons_succ, List.getElem?_cons_zero]; rfl)
            case hQ9 => exact fun _ _ _ h => h
            case hw9 => rfl
            case hy9 => (intro w' hSw; (try dsimp only at hSw); go_simp; all_goals with_reducible rfl)
            try simp only [Act.put, List.setIfInBounds_toArray, List.set_cons_zero, List.set_cons_succ]
            refine wpAnyH_done (by kernel_rfl) ?_ _
            have hcz := hH.1
            clear hH
            have hw := hw.trans hcz
            have hP := hP.keep hcz (fun h => h)
            have hQ := hQ.keep hcz (fun h => h)
            have hZ2 := hZ2.keep hcz (fun h => h)
            have hZ3 := hZ3.keep hcz (fun h => h)
            have hh := hh.never hcz
            have hk := hk.never hcz
            have hhN := hhN.never hcz
            have hkN := hkN.never hcz
            clear hcz
            try clear hS2
            clear e1
            have e1 : IntKind.i64.wrap (h.old + (((those k.marks 45).length : Int) - ((those k.marks 43).length : Int))) = h.old + (((those k.marks 45).length : Int) - ((those k.marks 43).length : Int)) := IntWalk.i64_in _ (by omega)
            have e2 : IntKind.i64.wrap (h.new + (((those k.marks 45).length : Int) - ((those k.marks 43).length : Int))) = h.new + (((those k.marks 45).length : Int) - ((those k.marks 43).length : Int)) := IntWalk.i64_in _ (by omega)
            have HM0 := Lib.hid (moved_box hP (((those k.marks 45).length : Int) - ((those k.marks 43).length : Int)))
            have hB1 := hP.set0 (.int .i64 (h.old + (((those k.marks 45).length : Int) - ((those k.marks 43).length : Int))))
            obtain ⟨p0, p1, p2⟩ := hP.cell
            have pf := hP.free
            obtain ⟨q0, q1, q2⟩ := hB1.cell
            have qf := hB1.free
            clear hB1
            go_wp2_with fail
            go_meet
            case rel =>
              obtain ⟨g1, g2⟩ := HM0.out
              exact swapMid_R hw g2 (fun j h => .inl h) (by rw [HSH.out]; exact g1) (by rw [HSK.out]; exact hQ.keep g2 (by omega)) (by rw [HSH.out]; exact hh) (by rw [HSK.out]; exact hk) hZ2 hZ3
          | false =>
            have HSH : Hid (swapH h k = h) := if_neg (by rw [HAB.out]; decide)
            have HSK : Hid (swapK h k = ⟨k.old + ((oldN h.marks : Int) - newN h.marks), k.new + ((oldN h.marks : Int) - newN h.marks), k.marks⟩) := if_neg (by rw [HAB.out]; decide)
            have e1 : IntKind.i64.wrap (((those h.marks 43).length : Int) - ((those h.marks 45).length : Int)) = ((those h.marks 43).length : Int) - ((those h.marks 45).length : Int) := IntWalk.i64_in _ (by omega)
            go_wp2_with fail
            refine wp_region_held_drew (S := fun w' => Chg Never wz w' ∧ w'.cell? ⟨w.heap.size, 0, none⟩ = some (.int .i64 h.old) ∧ w'.cell? ⟨w.heap.size, 1, none⟩ = some (.int .i64 h.new) ∧ w'.cell? ⟨w.heap.size, 2, none⟩ = some (.slice ha h.marks.length hcap) ∧ w'.cell? ⟨w.heap.size + 1, 0, none⟩ = some (.int .i64 k.old) ∧ w'.cell? ⟨w.heap.size + 1, 1, none⟩ = some (.int .i64 k.new) ∧ w'.cell? ⟨w.heap.size + 1, 2, none⟩ = some (.slice ka k.marks.length kcap)) (by kernel_rfl) ⟨(Chg.refl Never wz).drew, hP.cell.1, hP.cell.2.1, hP.cell.2.2, hQ.cell.1, hQ.cell.2.1, hQ.cell.2.2⟩ (fun hH => ?_)
            refine' wpAnyH_take (i := 0) ?hi0 (by kernel_rfl) (by kernel_rfl) (by kernel_rfl) ?hQ0 (Or.inl ⟨?hw0, ?hy0⟩) (by assumption) ?_
            case hi0 => (simp only [List.getElem?_toArray, List.getElem?_cons_succ, List.getElem?_cons_zero]; rfl)
            case hQ0 => exact fun _ _ _ h => h
            case hw0 => rfl
            case hy0 => (intro w' hSw; (try dsimp only at hSw); go_simp; all_goals with_reducible rfl)
            try simp only [Act.put, List.setIfInBounds_toArray, List.set_cons_zero, List.set_cons_succ]
            refine' wpAnyH_take (i := 1) ?hi1 (by kernel_rfl) (by kernel_rfl) (by kernel_rfl) ?hQ1 (Or.inl ⟨?hw1, ?hy1⟩) (by assumption) ?_
            case hi1 => (simp only [List.getElem?_toArray, List.getElem?_cons_succ, List.getElem?_cons_zero]; rfl)
            case hQ1 => exact fun _ _ _ h => h
            case hw1 => rfl
            case hy1 => (intro w' hSw; (try dsimp only at hSw); go_simp; all_goals with_reducible rfl)
            try simp only [Act.put, List.setIfInBounds_toArray, List.set_cons_zero, List.set_cons_succ]
            refine' wpAnyH_take (i := 4) ?hi4 (by kernel_rfl) (by kernel_rfl) (by kernel_rfl) ?hQ4 (Or.inl ⟨?hw4, ?hy4⟩) (by assumption) ?_
            case hi4 => (simp only [List.getElem?_toArray, List.getElem?_cons_succ, List.getElem?_cons_zero]; rfl)
            case hQ4 => exact fun _ _ _ h => h
            case hw4 => rfl
            case hy4 => (intro w' hSw; (try dsimp only at hSw); go_simp; all_goals with_reducible rfl)
            try simp only [Act.put, List.setIfInBounds_toArray, List.set_cons_zero, List.set_cons_succ]
            refine' wpAnyH_take (i := 5) ?hi5 (by kernel_rfl) (by kernel_rfl) (by kernel_rfl) ?hQ5 (Or.inl ⟨?hw5, ?hy5⟩) (by assumption) ?_
            case hi5 => (simp only [List.getElem?_toArray, List.getElem?_cons_succ, List.getElem?_cons_zero]; rfl)
            case hQ5 => exact fun _ _ _ h => h
            case hw5 => rfl
            case hy5 => (intro w' hSw; (try dsimp only at hSw); go_simp; all_goals with_reducible rfl)
            try simp only [Act.put, List.setIfInBounds_toArray, List.set_cons_zero, List.set_cons_succ]
            refine wpAnyH_ready (rs := [2]) (by kernel_rfl) (by simp) ?_
            refine AllReadyH.cons rfl (fun K hK => ?_) AllReadyH.nil
            go_simp
            (go_at_call 32; refine (refOld_any (h).marks _ _ (hhN.never (And.left (by assumption))) A1.out).mono ?_; rintro e wq ⟨rq, rfl, hcq, hrq⟩; obtain ⟨qa, qc, rfl, _, _, _⟩ := rdv_slice hrq; clear hrq; have hS2 := six_keep (by assumption) hcq)
            try go_wp2_with fail
            refine hK.out _ _ ?_ (fun hH => ?_)
            · assumption
            clear hK K
            try simp only [Act.put, List.setIfInBounds_toArray, List.set_cons_zero, List.set_cons_succ]
            refine' wpAnyH_take (i := 3) ?hi3 (by kernel_rfl) (by kernel_rfl) (by kernel_rfl) ?hQ3 (Or.inl ⟨?hw3, ?hy3⟩) (by assumption) ?_
            case hi3 => (simp only [List.getElem?_toArray, List.getElem?_cons_succ, List.getElem?_cons_zero]; rfl)
            case hQ3 => exact fun _ _ _ h => h
            case hw3 => rfl
            case hy3 => (intro w' hSw; (try dsimp only at hSw); go_simp; all_goals with_reducible rfl)
            try simp only [Act.put, List.setIfInBounds_toArray, List.set_cons_zero, List.set_cons_succ]
            refine wpAnyH_ready (rs := [6]) (by kernel_rfl) (by simp) ?_
            refine AllReadyH.cons rfl (fun K hK => ?_) AllReadyH.nil
            go_simp
            (go_at_call 33; refine (refNew_any (h).marks _ _ (hhN.never (And.left (by assumption))) A1.out).mono ?_; rintro e wq ⟨rq, rfl, hcq, hrq⟩; obtain ⟨qa, qc, rfl, _, _, _⟩ := rdv_slice hrq; clear hrq; have hS2 := six_keep (by assumption) hcq)
            try go_wp2_with fail
            refine hK.out _ _ ?_ (fun hH => ?_)
            · assumption
            clear hK K
            try simp only [Act.put, List.setIfInBounds_toArray, List.set_cons_zero, List.set_cons_succ]
            refine' wpAnyH_take (i := 7) ?hi7 (by kernel_rfl) (by kernel_rfl) (by kernel_rfl) ?hQ7 (Or.inl ⟨?hw7, ?hy7⟩) (by assumption) ?_
            case hi7 => (simp only [List.getElem?_toArray, List.getElem?_cons_succ, List.getElem?_cons_zero]; rfl)
            case hQ7 => exact fun _ _ _ h => h
            case hw7 => rfl
            case hy7 => (intro w' hSw; (try dsimp only at hSw); go_simp; all_goals with_reducible rfl)
            try simp only [Act.put, List.setIfInBounds_toArray, List.set_cons_zero, List.set_cons_succ]
            refine' wpAnyH_take (i := 8) ?hi8 (by kernel_rfl) (by kernel_rfl) (by kernel_rfl) ?hQ8 (Or.inl ⟨?hw8, ?hy8⟩) (by assumption) ?_
            case hi8 => (simp only [List.getElem?_toArray, List.getElem?_cons_succ, List.getElem?_cons_zero]; rfl)
            case hQ8 => exact fun _ _ _ h => h
            case hw8 => rfl
            case hy8 => (intro w' hSw; (try dsimp only at hSw); go_simp; all_goals with_reducible rfl)
            try simp only [Act.put, List.setIfInBounds_toArray, List.set_cons_zero, List.set_cons_succ]
            refine' wpAnyH_take (i := 9) ?hi9 (by kernel_rfl) (by kernel_rfl) (by kernel_rfl) ?hQ9 (Or.inl ⟨?hw9, ?hy9⟩) (by assumption) ?_
            case hi9 => (simp only [List.getElem?_toArray, List.getElem?_cons_succ, List.getElem?_cons_zero]; rfl)
            case hQ9 => exact fun _ _ _ h => h
            case hw9 => rfl
            case hy9 => (intro w' hSw; (try dsimp only at hSw); go_simp; all_goals with_reducible rfl)
            try simp only [Act.put, List.setIfInBounds_toArray, List.set_cons_zero, List.set_cons_succ]
            refine wpAnyH_done (by kernel_rfl) ?_ _
            have hcz := hH.1
            clear hH
            have hw := hw.trans hcz
            have hP := hP.keep hcz (fun h => h)
            have hQ := hQ.keep hcz (fun h => h)
            have hZ2 := hZ2.keep hcz (fun h => h)
            have hZ3 := hZ3.keep hcz (fun h => h)
            have hh := hh.never hcz
            have hk := hk.never hcz
            have hhN := hhN.never hcz
            have hkN := hkN.never hcz
            clear hcz
            try clear hS2
            clear e1
            have e1 : IntKind.i64.wrap (k.old + (((those h.marks 43).length : Int) - ((those h.marks 45).length : Int))) = k.old + (((those h.marks 43).length : Int) - ((those h.marks 45).length : Int)) := IntWalk.i64_in _ (by omega)
            have e2 : IntKind.i64.wrap (k.new + (((those h.marks 43).length : Int) - ((those h.marks 45).length : Int))) = k.new + (((those h.marks 43).length : Int) - ((those h.marks 45).length : Int)) := IntWalk.i64_in _ (by omega)
            have HM0 := Lib.hid (moved_box hQ (((those h.marks 43).length : Int) - ((those h.marks 45).length : Int)))
            have hB1 := hQ.set0 (.int .i64 (k.old + (((those h.marks 43).length : Int) - ((those h.marks 45).length : Int))))
            obtain ⟨p0, p1, p2⟩ := hQ.cell
            have pf := hQ.free
            obtain ⟨q0, q1, q2⟩ := hB1.cell
            have qf := hB1.free
            clear hB1
            go_wp2_with fail
            go_meet
            case rel =>
              obtain ⟨g1, g2⟩ := HM0.out
              exact swapMid_R hw g2 (fun j h => .inr h) (by rw [HSH.out]; exact hP.keep g2 (by omega)) (by rw [HSK.out]; exact g1) (by rw [HSH.out]; exact hh) (by rw [HSK.out]; exact hk) hZ2 hZ3
        case rest =>
          clear hw hh hk hP hQ hZ2 hZ3 hhN hkN
          obtain ⟨r1, r2, hw, hP, hQ, h1, h2, hZ2, hZ3⟩ := hcut.out
          have PO : ∀ {w' : World} {r1 r2 : Value} (z : swapFault h k = 0), _ → _ → _ → _ := fun {w'} {r1} {r2} z => swapPost_okR (h := h) (k := k) (w := w) (w' := w') (r1 := r1) (r2 := r2) z
          have PE : ∀ {w' : World} {ev : Value} (z : swapFault h k ≠ 0), _ → _ := fun {w'} {ev} z => swapPost_err (h := h) (k := k) (w := w) (w' := w') (ev := ev) z
          clear hcut
          generalize swapH h k = X at hP h1 HF PO
          generalize swapK h k = Y at hQ h2 HF PO
          obtain ⟨ra, rac, rfl, _, _, _⟩ := rdv_slice h1
          obtain ⟨rb, rbc, rfl, _, _, _⟩ := rdv_slice h2
          obtain ⟨p0, p1, p2⟩ := hP.cell
          have hr := rdv_one_hunk (t := 24) (h1.sub (O' := Never) (fun _ _ h => h.elim))
          go_wp2_with fail
          refine (refHunks_any [X] _ _ hr).mono ?_
          rintro e w3 ⟨rfl, hc3⟩
          have hc3 := ((Chg.refl Never wc).alloc _).trans hc3
          have hw := hw.trans hc3
          have hP := hP.keep hc3 (fun h => h)
          have hQ := hQ.keep hc3 (fun h => h)
          have hZ2 := hZ2.keep hc3 (fun h => h)
          have hZ3 := hZ3.keep hc3 (fun h => h)
          have h1 := h1.never hc3
          have h2 := h2.never hc3
          rw [show (hunksFault [X]).2 = hunk1 X from rfl]
          clear hr hc3 p0 p1 p2
          by_cases z : hunk1 X = 0
          · have G1 := Lib.hid z
            rw [z]
            clear z
            obtain ⟨q0, q1, q2⟩ := hQ.cell
            have hr := rdv_one_hunk (t := 24) (h2.sub (O' := Never) (fun _ _ h => h.elim))
            go_wp2_with fail
            refine (refHunks_any [Y] _ _ hr).mono ?_
            rintro e w4 ⟨rfl, hc4⟩
            have hc4 := ((Chg.refl Never w3).alloc _).trans hc4
            have hw := hw.trans hc4
            have hP := hP.keep hc4 (fun h => h)
            have hQ := hQ.keep hc4 (fun h => h)
            have hZ2 := hZ2.keep hc4 (fun h => h)
            have hZ3 := hZ3.keep hc4 (fun h => h)
            have h1 := h1.never hc4
            have h2 := h2.never hc4
            rw [show (hunksFault [Y]).2 = hunk1 Y from rfl]
            clear hr hc4 q0 q1 q2
            by_cases y : hunk1 Y = 0
            · have G2 := Lib.hid y
              rw [y]
              clear y
              have HG := Lib.hid (HF.out.trans (pair_of G1.out G2.out))
              obtain ⟨p0, p1, p2⟩ := hP.cell
              obtain ⟨q0, q1, q2⟩ := hQ.cell
              have hZ2 : Blk3 w4 (w.heap.size + 1 + 1) 24 (.int .i64 0) (.int .i64 0) (.slice none 0 0) := hZ2
              have hZ3 : Blk3 w4 (w.heap.size + 1 + 1 + 1) 24 (.int .i64 0) (.int .i64 0) (.slice none 0 0) := hZ3
              obtain ⟨p0, p1, p2⟩ := hP.cell
              obtain ⟨q0, q1, q2⟩ := hQ.cell
              have zf := hZ2.free
              have zf0 := zf 0
              have zf1 := zf 1
              have zf2 := zf 2
              obtain ⟨z0, z1, z2⟩ := hZ2.cell
              have hBC : w.heap.size + 1 + 1 + 1 ≠ w.heap.size + 1 + 1 := by omega
              have hY := put3_keep hBC hZ3 (.int .i64 Y.old) (.int .i64 Y.new) (.slice rb Y.marks.length rbc)
              obtain ⟨y0, y1, y2⟩ := hY.cell
              have yf := hY.free
              have yf0 := yf 0
              have yf1 := yf 1
              have yf2 := yf 2
              have hX2 := put3_keep (show w.heap.size ≠ w.heap.size + 1 + 1 by omega) hP (.int .i64 Y.old) (.int .i64 Y.new) (.slice rb Y.marks.length rbc)
              obtain ⟨x30, x31, x32⟩ := hX2.cell
              have HM := Lib.hid (put3_two hBC hZ2 hZ3 (.int .i64 Y.old) (.int .i64 Y.new) (.slice rb Y.marks.length rbc) (.int .i64 X.old) (.int .i64 X.new) (.slice ra X.marks.length rac) rfl)
              clear hY hX2 hP hQ hZ2 hZ3
              go_wp2_with fail
              go_region
              all_goals
                obtain ⟨hY, hX, hS⟩ := HM.out
                have hY := hY.keep (Chg.refl Never _).drew (fun h => h)
                have hX := hX.keep (Chg.refl Never _).drew (fun h => h)
                have h1F := (h1.keep (O'' := Never) hS (fun j _ h => by omega) (fun _ _ h => h.elim)).never (Chg.refl Never _).drew
                have h2F := (h2.keep (O'' := Never) hS (fun j _ h => by omega) (fun _ _ h => h.elim)).never (Chg.refl Never _).drew
                have hcF := (hw.trans' hS (fun j hj h => by omega)).drew
                obtain ⟨f0, f1, f2⟩ := hY.cell
                obtain ⟨g0, g1, g2⟩ := hX.cell
                clear hS HM hY hX p0 p1 p2 q0 q1 q2 z0 z1 z2 y0 y1 y2 zf yf zf0 zf1 zf2 yf0 yf1 yf2 x30 x31 x32
                go_wp2_with fail
                exact bodyPost_ret (v := .tuple #[.agg #[.int .i64 Y.old, .int .i64 Y.new, .slice rb Y.marks.length rbc], .agg #[.int .i64 X.old, .int .i64 X.new, .slice ra X.marks.length rac], .int .i64 0]) (by simp [results, Tryd.results10, go_sem, f0, f1, f2, g0, g1, g2]) rfl (PO HG.out hcF h1F h2F)
            · have Z := Lib.hid y
              have z0 : (hunk1 Y == 0) = false := by simpa using y
              clear y h1 h2
              obtain ⟨z0, z1, z2⟩ := hZ2.cell
              obtain ⟨y0, y1, y2⟩ := hZ3.cell
              have zf := hZ2.free
              have yf := hZ3.free
              have S0 := cell_put_same z0
              have S1 := cell_put_same z1
              have S2 := cell_put_same z2
              have S3 := cell_put_same y0
              have S4 := cell_put_same y1
              have S5 := cell_put_same y2
              go_wp2_with fail
              refine bodyPost_ret (v := .tuple #[.agg #[.int .i64 0, .int .i64 0, .slice none 0 0], .agg #[.int .i64 0, .int .i64 0, .slice none 0 0], .int .i64 (hunk1 Y)]) (by simp [results, Tryd.results10, go_sem, z0, z1, z2, y0, y1, y2]) rfl ?_
              have HG := HF.out
              rw [pair_second G1.out] at HG
              rw [HG]
              exact PE (by rw [HG]; exact Z.out) hw
          · have Z := Lib.hid z
            have z0 : (hunk1 X == 0) = false := by simpa using z
            clear z h1 h2
            obtain ⟨z0, z1, z2⟩ := hZ2.cell
            obtain ⟨y0, y1, y2⟩ := hZ3.cell
            have zf := hZ2.free
            have yf := hZ3.free
            have S0 := cell_put_same z0
            have S1 := cell_put_same z1
            have S2 := cell_put_same z2
            have S3 := cell_put_same y0
            have S4 := cell_put_same y1
            have S5 := cell_put_same y2
            go_wp2_with fail
            refine bodyPost_ret (v := .tuple #[.agg #[.int .i64 0, .int .i64 0, .slice none 0 0], .agg #[.int .i64 0, .int .i64 0, .slice none 0 0], .int .i64 (hunk1 X)]) (by simp [results, Tryd.results10, go_sem, z0, z1, z2, y0, y1, y2]) rfl ?_
            have HG := HF.out
            rw [pair_first Z.out] at HG
            rw [HG]
            exact PE (by rw [HG]; exact Z.out) hw
    · have Z := Lib.hid y
      have z0 : (hunk1 k == 0) = false := by simpa using y
      clear y hh hk
      obtain ⟨z0, z1, z2⟩ := hZ2.cell
      obtain ⟨y0, y1, y2⟩ := hZ3.cell
      have zf := hZ2.free
      have yf := hZ3.free
      have S0 := cell_put_same z0
      have S1 := cell_put_same z1
      have S2 := cell_put_same z2
      have S3 := cell_put_same y0
      have S4 := cell_put_same y1
      have S5 := cell_put_same y2
      go_wp2_with fail
      refine bodyPost_ret (v := .tuple #[.agg #[.int .i64 0, .int .i64 0, .slice none 0 0], .agg #[.int .i64 0, .int .i64 0, .slice none 0 0], .int .i64 (hunk1 k)]) (by simp [results, Tryd.results10, go_sem, z0, z1, z2, y0, y1, y2]) rfl ?_
      rw [swapFault_second G1.out Z.out]
      exact swapPost_err (by rw [swapFault_second G1.out Z.out]; exact Z.out) hw
  · have Z := Lib.hid z
    have z0 : (hunk1 h == 0) = false := by simpa using z
    clear z hh hk
    obtain ⟨z0, z1, z2⟩ := hZ2.cell
    obtain ⟨y0, y1, y2⟩ := hZ3.cell
    have zf := hZ2.free
    have yf := hZ3.free
    have S0 := cell_put_same z0
    have S1 := cell_put_same z1
    have S2 := cell_put_same z2
    have S3 := cell_put_same y0
    have S4 := cell_put_same y1
    have S5 := cell_put_same y2
    go_wp2_with fail
    refine bodyPost_ret (v := .tuple #[.agg #[.int .i64 0, .int .i64 0, .slice none 0 0], .agg #[.int .i64 0, .int .i64 0, .slice none 0 0], .int .i64 (hunk1 h)]) (by simp [results, Tryd.results10, go_sem, z0, z1, z2, y0, y1, y2]) rfl ?_
    rw [swapFault_first Z.out]
    exact swapPost_err (by rw [swapFault_first Z.out]; exact Z.out) hw
end Go.Proofs.YtibeddcebefbjaaDoor
namespace Go.Proofs.YtibeddcebefbjaaDoor
open Go.RowKit

theorem two_blk (w : World) (t : TypeId) (x y z x' y' z' : Value) {W : World} (hW : W = (w.alloc (.cells #[x, y, z] t)).alloc (.cells #[x', y', z'] t)) :
    Chg Never w W ∧ Blk3 W w.heap.size t x y z ∧ Blk3 W (w.heap.size + 1) t x' y' z' := by
  subst hW
  have h2 := Blk3.new (w.alloc (.cells #[x, y, z] t)) t x' y' z'
  simp only [World.size_alloc] at h2
  exact ⟨((Chg.refl Never w).alloc _).alloc _, (Blk3.new w t x y z).keep (O := Never) ((Chg.refl _ _).alloc _) (fun h => h), h2⟩
set_option maxHeartbeats 4000000 in
set_option maxRecDepth 100000 in
theorem law_swapIs (h k : Hunk) (hv kv : Value) (w : World) (hh : Rdv w Never hv h.marks) (hk : Rdv w Never kv k.marks) (hg : w.cell? ⟨0, 0, none⟩ = some errT) :
    Calls Tryd.prog 3 #[.agg #[.int .i64 h.old, .int .i64 h.new, hv], .agg #[.int .i64 k.old, .int .i64 k.new, kv]] w fun e w' => e = .returned (.bool true) ∧ Chg Never w w' := by
  obtain ⟨ha, hcap, rfl, _, _, _⟩ := rdv_slice hh
  obtain ⟨ka, kcap, rfl, _, _, _⟩ := rdv_slice hk
  obtain ⟨hA, hP, hQ⟩ := two_blk w 24 (.int .i64 h.old) (.int .i64 h.new) (.slice ha h.marks.length hcap) (.int .i64 k.old) (.int .i64 k.new) (.slice ka k.marks.length kcap) rfl
  go_enter Tryd.func3, Tryd.ntmps3
  go_upto_region 1 with fail
  generalize (w.alloc (.cells #[.int .i64 h.old, .int .i64 h.new, .slice ha h.marks.length hcap] 24)).alloc (.cells #[.int .i64 k.old, .int .i64 k.new, .slice ka k.marks.length kcap] 24) = wA at hA hP hQ ⊢
  have hh := hh.never hA
  have hk := hk.never hA
  obtain ⟨p0, p1, p2⟩ := hP.cell
  obtain ⟨q0, q1, q2⟩ := hQ.cell
  go_wp2_with fail
  refine (refSwap_any h k _ _ _ hh hk).mono ?_
  rintro e w1 ⟨rx, ry, rfl, hc1, hx, hy⟩
  obtain ⟨xa, xcap, rfl, _, _, _⟩ := rdv_slice hx
  obtain ⟨ya, ycap, rfl, _, _, _⟩ := rdv_slice hy
  obtain ⟨hB, hX, hY⟩ := two_blk w1 24 (.int .i64 (swapFst h k).old) (.int .i64 (swapFst h k).new) (.slice xa (swapFst h k).marks.length xcap) (.int .i64 (swapSnd h k).old) (.int .i64 (swapSnd h k).new) (.slice ya (swapSnd h k).marks.length ycap) rfl
  go_upto_region 2 with fail
  generalize (w1.alloc (.cells #[.int .i64 (swapFst h k).old, .int .i64 (swapFst h k).new, .slice xa (swapFst h k).marks.length xcap] 24)).alloc (.cells #[.int .i64 (swapSnd h k).old, .int .i64 (swapSnd h k).new, .slice ya (swapSnd h k).marks.length ycap] 24) = w2 at hB hX hY ⊢
  have hc := hc1.trans hB
  have hw := hA.trans hc
  have hP := hP.keep hc (fun h => h)
  have hQ := hQ.keep hc (fun h => h)
  have hh := hh.never hc
  have hk := hk.never hc
  have hx := hx.never hB
  have hy := hy.never hB
  clear hc hc1 hB hA p0 p1 p2 q0 q1 q2
  obtain ⟨p0, p1, p2⟩ := hP.cell
  obtain ⟨q0, q1, q2⟩ := hQ.cell
  go_wp2_with fail
  refine (swap_any h k _ _ _ hh hk).mono ?_
  rintro e w3 ⟨sx, sy, rfl, hc3, gx, gy⟩
  obtain ⟨ua, ucap, rfl, _, _, _⟩ := rdv_slice gx
  obtain ⟨va, vcap, rfl, _, _, _⟩ := rdv_slice gy
  obtain ⟨hB, hU, hV⟩ := two_blk w3 24 (.int .i64 (swapFst h k).old) (.int .i64 (swapFst h k).new) (.slice ua (swapFst h k).marks.length ucap) (.int .i64 (swapSnd h k).old) (.int .i64 (swapSnd h k).new) (.slice va (swapSnd h k).marks.length vcap) rfl
  go_upto_region 3 with fail
  generalize (w3.alloc (.cells #[.int .i64 (swapFst h k).old, .int .i64 (swapFst h k).new, .slice ua (swapFst h k).marks.length ucap] 24)).alloc (.cells #[.int .i64 (swapSnd h k).old, .int .i64 (swapSnd h k).new, .slice va (swapSnd h k).marks.length vcap] 24) = w4 at hB hU hV ⊢
  have hc := hc3.trans hB
  have hw := hw.trans hc
  have hX := hX.keep hc (fun h => h)
  have hY := hY.keep hc (fun h => h)
  have hx := hx.never hc
  have hy := hy.never hc
  have gx := gx.never hB
  have gy := gy.never hB
  clear hc hc3 hB p0 p1 p2 q0 q1 q2 hP hQ hh hk
  go_wp2_with fail
  refine (error_any _ _ _ (hw.cellNever hg)).mono ?_
  rintro e w5 ⟨rfl, hc5⟩
  rw [beq_self_eq_true]
  have hw := hw.trans hc5
  have hX := hX.keep hc5 (fun h => h)
  have hY := hY.keep hc5 (fun h => h)
  have hU := hU.keep hc5 (fun h => h)
  have hV := hV.keep hc5 (fun h => h)
  have hx := hx.never hc5
  have hy := hy.never hc5
  have gx := gx.never hc5
  have gy := gy.never hc5
  clear hc5
  obtain ⟨p0, p1, p2⟩ := hX.cell
  obtain ⟨q0, q1, q2⟩ := hU.cell
  go_wp2_with fail
  refine (hunk_eq_any (swapFst h k) (swapFst h k) _ _ _ gx hx).mono ?_
  rintro e w6 ⟨rfl, hc6⟩
  rw [decide_eq_true rfl]
  have hw := hw.trans hc6
  have hY := hY.keep hc6 (fun h => h)
  have hV := hV.keep hc6 (fun h => h)
  have hy := hy.never hc6
  have gy := gy.never hc6
  clear hc6 p0 p1 p2 q0 q1 q2 hX hU
  obtain ⟨p0, p1, p2⟩ := hY.cell
  obtain ⟨q0, q1, q2⟩ := hV.cell
  go_wp2_with fail
  refine (hunk_eq_any (swapSnd h k) (swapSnd h k) _ _ _ gy hy).mono ?_
  rintro e w7 ⟨rfl, hc7⟩
  rw [decide_eq_true rfl]
  have hw := hw.trans hc7
  go_wp2_with fail
  go_ret
  exact ⟨rfl, hw⟩
end Go.Proofs.YtibeddcebefbjaaDoor
namespace Go.Proofs.YtibeddcebefbjaaDoor.lawSwapIs
open Go.ChangeShapes Go.WideShapes Go.ChangeAt Go.RowKit

set_option maxRecDepth 100000 in
theorem contract (H : Type) (enc : TypeId × Value → H) (W : World) (base : Nat) (args : Array Value) (ds gs : List (DataW H)) (before : List MemPlace)
    (hval : ∀ (j : Nat) t v, Tryd.f3.params[j]? = some t → args[j]? = some v → Value.okWide Tryd.prog W .any base t v)
    (hW : DataW.Whole enc Tryd.prog Tryd.f3.params.toList Rows.swapIsSpec.vars false W args.toList ds gs before) (hk : Rows.uptoSmall H (ds ++ gs) = true) (hL : laidMetH Tryd.prog Rows.swapIsUptoRow.laid W) :
    Calls Tryd.prog 3 args W fun e W' => ∃ v, e = .returned v ∧ Rows.swapIsSpec.post enc Tryd.prog Tryd.f3 false true false false W args v W' := by
  have hg := handle_of_laid hL
  have hW' := hW
  obtain ⟨p, q, hA0, hV, rfl, hfz, hnd⟩ := hW
  have hA : DataW.TrodAll enc Tryd.prog W 0 (fun _ => true) true Tryd.f3.params.toList args.toList ds p := hA0
  rw [Tryd.params3] at hA hval
  obtain ⟨v0, vs0, d0, ds0, p0, q0, hargs, rfl, rfl, h0, r0⟩ := trodAll_cons hA
  obtain ⟨v1, vs1, d1, ds1, p1, q1, rfl, rfl, rfl, h1, r1⟩ := trodAll_cons r0
  obtain ⟨rfl, rfl, rfl⟩ := trodAll_nil r1
  obtain rfl : args = #[v0, v1] := by cases args; simp_all
  obtain ⟨x0, cs0, rfl, hx0, hb0⟩ := open_agg Tryd.underlying24 opens_ahunk (hval 0 24 v0 rfl rfl) h0
  obtain ⟨fv0, rfl, hv0⟩ := hx0
  obtain ⟨x1, cs1, rfl, hx1, hb1⟩ := open_agg Tryd.underlying24 opens_ahunk (hval 1 24 v1 rfl rfl) h1
  obtain ⟨fv1, rfl, hv1⟩ := hx1
  refine (law_swapIs x0 x1 _ _ W hv0 hv1 hg).mono fun e W' he => ?_
  obtain ⟨he, hc⟩ := he
  subst he
  exact ⟨_, rfl, post_law hW' rfl rfl Tryd.underlying4 rfl laidOut (by decide +kernel) hc⟩

theorem reads (os : Os) {H : Type} (enc : TypeId × Value → H) : ∃ places, DataW.whole enc Tryd.prog ((laidWorld os).forCall (fun _ _ => 0) ⟨#[], #[.agg #[.int .i64 0, .int .i64 0, .slice none 0 0], .agg #[.int .i64 0, .int .i64 0, .slice none 0 0]], []⟩).memory Tryd.f3.params.toList Rows.swapIsSpec.vars false (#[.agg #[.int .i64 0, .int .i64 0, .slice none 0 0], .agg #[.int .i64 0, .int .i64 0, .slice none 0 0]] : Array Value).toList 8 = some ([.agg [.lit (.int .i64 0), .lit (.int .i64 0), .nil], .agg [.lit (.int .i64 0), .lit (.int .i64 0), .nil]], [], places) :=
  ⟨[], by kernel_rfl⟩
set_option maxRecDepth 100000 in
theorem liftedUpto (os : Os) (started : os.Started) (H : Type) (enc : TypeId × Value → H) (F : Stop.Interp) :
    ReturnsInHanded {} Tryd.checked os 3 .any ((Rows.OpenSpec.upto Rows.swapIsSpec).preRow enc Tryd.prog Tryd.f3 Rows.swapIsUptoRow.domain false Rows.swapIsUptoRow.laid) (((Rows.OpenSpec.upto Rows.swapIsSpec).at F).post enc Tryd.prog Tryd.f3 false true false false) := by
  obtain ⟨places, hx⟩ := reads os enc
  refine returnsInHanded_of_row (C := Tryd.checked) (s := Rows.OpenSpec.upto Rows.swapIsSpec) own started (by kernel_rfl) Tryd.func3
    (witness_row_at (enc := enc) (C := Tryd.checked) false (laidWorld os) #[.agg #[.int .i64 0, .int .i64 0, .slice none 0 0], .agg #[.int .i64 0, .int .i64 0, .slice none 0 0]] rfl (by kernel_rfl) (by kernel_rfl) (by kernel_rfl)
      (OpenSpec.preRow_of_cond 8 hx (by kernel_rfl) (fun k hk => by cases hk; kernel_rfl) (by kernel_rfl) (laidWorld_met os _))) ?_
  intro W base args ds gs before hval hW _ hcond _ hL _ _
  exact contract H enc W base args ds gs before hval hW (hcond _ rfl) hL

theorem saidUpto : Rows.SwapIsUptoSaid :=
  OpenClaim.holds_of_cond 3 Tryd.f3 rfl rfl rfl rfl rfl rfl rfl ⟨rfl, rfl, rfl, rfl, rfl⟩ rfl rfl rfl rfl rfl (by kernel_rfl) Tryd.func3 (by kernel_rfl)
    (of_decide_eq_true (by kernel_rfl)) (by unfold Func.isWrapper; first | (rw [if_pos (by decide +kernel)]; kernel_rfl) | (rw [if_neg (by decide +kernel)]; exact ⟨rfl, rfl⟩))
    (fun os started H enc _ F => by rw [OpenClaim.pre_eq_preRow]; exact liftedUpto os started H enc F)

theorem plain (f : FuncId) (fn : Func) (hf : Tryd.pinned.checked.prog.funcNamed "handstitch/handstitchlaw2.SwapIs" = some f) (hfn : Tryd.pinned.checked.prog.funcs[f]? = some fn) :
    true = Tryd.pinned.checked.prog.looks [] ∧ ∀ (j : Nat) t, fn.params[j]? = some t → Tryd.pinned.checked.prog.wantsStandIn t = false := by
  obtain rfl : f = 3 := Option.some.inj ((show Tryd.prog.funcNamed "handstitch/handstitchlaw2.SwapIs" = some 3 by kernel_rfl).symm.trans hf) |>.symm
  obtain rfl : fn = Tryd.f3 := (Option.some.inj (Tryd.func3.symm.trans hfn)).symm
  refine ⟨by kernel_rfl, fun j t ht => ?_⟩
  rw [Tryd.params3] at ht
  have hm := Array.mem_of_getElem? ht
  simp only [List.mem_toArray, List.mem_cons, List.not_mem_nil, or_false] at hm
  clear ht
  repeat' (first | (rcases hm with rfl | hm) | subst hm)
  all_goals exact (show Tryd.prog.wantsStandIn _ = false by kernel_rfl)

theorem cardUpto : Rows.SwapIsUptoCardSaid :=
  Claim7.holds_tied_plain_at .later [] _ _ _ _ saidUpto (fun _ h => by cases h) (by kernel_rfl) (fun _ h => by cases h) swapIsUpto_row_tie rfl ⟨rfl, rfl⟩ (by kernel_rfl) rfl plain (by kernel_rfl)
end Go.Proofs.YtibeddcebefbjaaDoor.lawSwapIs
