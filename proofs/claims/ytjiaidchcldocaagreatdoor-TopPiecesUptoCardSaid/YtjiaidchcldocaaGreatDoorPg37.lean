/-
  PARTS: THE WALKS of algebra.two, Join, Inter.; THE LAW AlgebraJoins, walked.; THE WALKS of what the statements of the whole share: found, last, one.
-/
import Derived.Test.YtjiaidchcldocaaGreatDoorPg36
import Derived.Test.YtjiaidchcldocaaGreatDoorPg31
import Derived.Test.YtjiaidchcldocaaGreatDoorPg1
import Derived.Test.YtjiaidchcldocaaGreatDoorPg34
import Derived.Test.YtjiaidchcldocaaGreatDoorPg35
import Derived.Deep.RegionHeld3
set_option linter.unusedVariables false
set_option linter.unusedSimpArgs false
namespace Go.Proofs.YtjiaidchcldocaaGreatDoor
open Go.RowKit

def twoF (t : List File) (p q : List Change) (D : List File) : Int := if (applyR t p).2.2 = 0 then (applyR D q).2.2 else (applyR t p).2.2
def twoC (t : List File) (p q : List Change) (D : List File) : List File := if (applyR t p).2.2 = 0 then (applyR D q).1 else []
def TwoPost (t : List File) (p q : List Change) (D : List File) (w : World) (e : Ending) (w' : World) : Prop :=
  ∃ rb rc, e = .returned (.tuple #[rb, rc, errV (twoF t p q D)]) ∧ Chg Never w w' ∧ Rdv w' Never rb (applyR t p).1 ∧ Rdv w' Never rc (twoC t p q D)
theorem joinOf_any (v : Value) (w : World) : Calls Tryz.prog 67 #[v] w fun e w' => e = .returned v ∧ Chg Never w w' := by
  go_enter Tryz.func67, Tryz.ntmps67
  go_wp2_with fail
  go_ret
  exact ⟨rfl, Chg.refl _ _⟩
theorem interOf_any (v u : Value) (a : Addr) (w : World) (h : w.cell? a = some u) : Calls Tryz.prog 68 #[v, .pointer (some a)] w fun e w' => e = .returned u ∧ Chg Never w w' := by
  go_enter Tryz.func68, Tryz.ntmps68
  go_wp2_with fail
  go_ret
  exact ⟨rfl, Chg.refl _ _⟩
set_option maxHeartbeats 2000000 in
set_option maxRecDepth 100000 in
theorem two_join (t : List File) (p q : List Change) (vt vp vq : Value) (w : World) (ht : Rdv w Never vt t) (hp : Rdv w Never vp p) (hq : Rdv w Never vq q) (m : Int) (hm : w.cell? ⟨1, 0, none⟩ = some (.int .i64 m)) :
    Calls Tryz.prog 66 #[vt, vp, vq, .func (.func 67) #[] #[]] w fun e w' => TwoPost t p q (applyR t p).1 w e w' := by
  go_enter Tryz.func66, Tryz.ntmps66
  go_wp2_with fail
  refine (apply_any t p _ _ _ ht hp m hm).mono ?_
  rintro e w1 ⟨r1, rfl, hw, hr1⟩
  by_cases z : (applyR t p).2.2 = 0
  · have HF : Hid (twoF t p q (applyR t p).1 = (applyR (applyR t p).1 q).2.2) := if_pos z
    have HC : Hid (twoC t p q (applyR t p).1 = (applyR (applyR t p).1 q).1) := if_pos z
    rw [z, errV_zero]
    clear z
    obtain ⟨ba, bc, rfl, _, _, _⟩ := rdv_slice hr1
    go_wp2_with (go_at_call 67; refine (joinOf_any _ _).mono ?_; rintro e w2 ⟨rfl, hcO⟩; have hw2 := hw.trans hcO)
    refine (apply_any (applyR t p).1 q _ _ _ (hr1.never hcO) (hq.never hw2) m (hw2.cellNever hm)).mono ?_
    rintro e w3 ⟨r3, rfl, hc3, hr3⟩
    have hr1 := hr1.never (hcO.trans hc3)
    have hwf := hw2.trans hc3
    obtain ⟨ca, cc, rfl, _, _, _⟩ := rdv_slice hr3
    by_cases y : (applyR (applyR t p).1 q).2.2 = 0
    · rw [y, errV_zero]
      have Y := Lib.hid y
      clear y
      go_wp2_with fail
      go_ret3
      exact ⟨_, _, by rw [HF.out, Y.out]; rfl, hwf, hr1, by rw [HC.out]; exact hr3⟩
    · rw [errV_pos y]
      have Y := Lib.hid y
      clear y
      go_wp2_with fail
      go_ret3
      exact ⟨_, _, by rw [HF.out, errV_pos Y.out]; rfl, hwf, hr1, by rw [HC.out]; exact hr3⟩
  · have HF : Hid (twoF t p q (applyR t p).1 = (applyR t p).2.2) := if_neg z
    have HC : Hid (twoC t p q (applyR t p).1 = []) := if_neg z
    have HB := Lib.hid (applyR_nil z)
    have Z := Lib.hid z
    rw [errV_pos z]
    clear z hr1
    go_wp2_with fail
    go_ret3
    exact ⟨_, _, by rw [HF.out, errV_pos Z.out]; rfl, hw, by rw [HB.out]; exact rdv_nil _ _, by rw [HC.out]; exact rdv_nil _ _⟩
set_option maxHeartbeats 2000000 in
set_option maxRecDepth 100000 in
theorem two_inter (t : List File) (p q : List Change) (vt vp vq : Value) (a : Addr) (w : World) (ht : Rdv w Never vt t) (hp : Rdv w Never vp p) (hq : Rdv w Never vq q) (ha : w.cell? a = some vt) (m : Int) (hm : w.cell? ⟨1, 0, none⟩ = some (.int .i64 m)) :
    Calls Tryz.prog 66 #[vt, vp, vq, .func (.func 68) #[] #[.pointer (some a)]] w fun e w' => TwoPost t p q t w e w' := by
  go_enter Tryz.func66, Tryz.ntmps66
  go_wp2_with fail
  refine (apply_any t p _ _ _ ht hp m hm).mono ?_
  rintro e w1 ⟨r1, rfl, hw, hr1⟩
  by_cases z : (applyR t p).2.2 = 0
  · have HF : Hid (twoF t p q t = (applyR t q).2.2) := if_pos z
    have HC : Hid (twoC t p q t = (applyR t q).1) := if_pos z
    rw [z, errV_zero]
    clear z
    obtain ⟨ba, bc, rfl, _, _, _⟩ := rdv_slice hr1
    go_wp2_with (go_at_call 68; refine (interOf_any _ _ _ _ (hw.cellNever ha)).mono ?_; rintro e w2 ⟨rfl, hcO⟩; have hw2 := hw.trans hcO)
    refine (apply_any t q _ _ _ (ht.never hw2) (hq.never hw2) m (hw2.cellNever hm)).mono ?_
    rintro e w3 ⟨r3, rfl, hc3, hr3⟩
    have hr1 := hr1.never (hcO.trans hc3)
    have hwf := hw2.trans hc3
    obtain ⟨ca, cc, rfl, _, _, _⟩ := rdv_slice hr3
    by_cases y : (applyR t q).2.2 = 0
    · rw [y, errV_zero]
      have Y := Lib.hid y
      clear y
      go_wp2_with fail
      go_ret3
      exact ⟨_, _, by rw [HF.out, Y.out]; rfl, hwf, hr1, by rw [HC.out]; exact hr3⟩
    · rw [errV_pos y]
      have Y := Lib.hid y
      clear y
      go_wp2_with fail
      go_ret3
      exact ⟨_, _, by rw [HF.out, errV_pos Y.out]; rfl, hwf, hr1, by rw [HC.out]; exact hr3⟩
  · have HF : Hid (twoF t p q t = (applyR t p).2.2) := if_neg z
    have HC : Hid (twoC t p q t = []) := if_neg z
    have HB := Lib.hid (applyR_nil z)
    have Z := Lib.hid z
    rw [errV_pos z]
    clear z hr1
    go_wp2_with fail
    go_ret3
    exact ⟨_, _, by rw [HF.out, errV_pos Z.out]; rfl, hw, by rw [HB.out]; exact rdv_nil _ _, by rw [HC.out]; exact rdv_nil _ _⟩
def joinFt (t : List File) (p q : List Change) (n : Int) : Int := if twoF t p q (applyR t p).1 = 0 then diffFault t (twoC t p q (applyR t p).1) n else twoF t p q (applyR t p).1
def joinRt (t : List File) (p q : List Change) (n : Int) : List Change := if twoF t p q (applyR t p).1 = 0 then diffR t (twoC t p q (applyR t p).1) n else []
def interF (t : List File) (p q : List Change) (n : Int) : Int := if twoF t p q t = 0 then diffFault (applyR t p).1 (twoC t p q t) n else twoF t p q t
def interR (t : List File) (p q : List Change) (n : Int) : List Change := if twoF t p q t = 0 then diffR (applyR t p).1 (twoC t p q t) n else []
set_option maxHeartbeats 2000000 in
set_option maxRecDepth 100000 in
theorem alg_join_any (t : List File) (p q : List Change) (n : Int) (vt vp vq : Value) (w : World) (ht : Rdv w Never vt t) (hp : Rdv w Never vp p) (hq : Rdv w Never vq q) (hn : I64 n) (m : Int) (hm : w.cell? ⟨1, 0, none⟩ = some (.int .i64 m)) :
    Calls Tryz.prog 26 #[vt, vp, vq, .int .i64 n] w fun e w' => ∃ r, e = .returned (.tuple #[r, errV (joinFt t p q n)]) ∧ Chg Never w w' ∧ Rdv w' Never r (joinRt t p q n) := by
  go_enter Tryz.func26, Tryz.ntmps26
  go_wp2_with fail
  refine (two_join t p q _ _ _ _ ht hp hq m hm).mono ?_
  rintro e w2 ⟨rb, rc, rfl, hw, hrb, hrc⟩
  by_cases z : twoF t p q (applyR t p).1 = 0
  · have HF : Hid (joinFt t p q n = diffFault t (twoC t p q (applyR t p).1) n) := if_pos z
    have HR : Hid (joinRt t p q n = diffR t (twoC t p q (applyR t p).1) n) := if_pos z
    rw [z, errV_zero]
    clear z
    go_wp2_with fail
    refine (diff_any t (twoC t p q (applyR t p).1) n _ _ _ (ht.never hw) hrc hn m (hw.cellNever hm)).mono ?_
    rintro e w3 ⟨r3, rfl, hc3, hr3⟩
    rw [← HF.out]
    rw [← HR.out] at hr3
    go_wp2_with fail
    go_ret2
    exact ⟨r3, rfl, hw.trans hc3, hr3⟩
  · have HF : Hid (joinFt t p q n = twoF t p q (applyR t p).1) := if_neg z
    have HR : Hid (joinRt t p q n = []) := if_neg z
    have Z := Lib.hid z
    rw [errV_pos z]
    clear z
    go_wp2_with fail
    go_ret2
    exact ⟨.slice none 0 0, by rw [HF.out, errV_pos Z.out]; rfl, hw, by rw [HR.out]; exact rdv_nil _ _⟩
set_option maxHeartbeats 2000000 in
set_option maxRecDepth 100000 in
theorem alg_inter_any (t : List File) (p q : List Change) (n : Int) (vt vp vq : Value) (w : World) (ht : Rdv w Never vt t) (hp : Rdv w Never vp p) (hq : Rdv w Never vq q) (hn : I64 n) (m : Int) (hm : w.cell? ⟨1, 0, none⟩ = some (.int .i64 m)) :
    Calls Tryz.prog 27 #[vt, vp, vq, .int .i64 n] w fun e w' => ∃ r, e = .returned (.tuple #[r, errV (interF t p q n)]) ∧ Chg Never w w' ∧ Rdv w' Never r (interR t p q n) := by
  obtain ⟨ta, tc, rfl, _, _, _⟩ := rdv_slice ht
  have hA : Chg Never w (w.alloc (.cells #[.slice ta t.length tc] 41)) := (Chg.refl Never w).alloc _
  have b0 : (w.alloc (.cells #[.slice ta t.length tc] 41)).cell? ⟨w.heap.size, 0, none⟩ = some (.slice ta t.length tc) := by simp only [World.cell?]; rw [heap_alloc_new]; rfl
  go_enter Tryz.func27, Tryz.ntmps27
  go_wp2_with fail
  refine (two_inter t p q _ _ _ _ _ (ht.never hA) (hp.never hA) (hq.never hA) b0 m (hA.cellNever hm)).mono ?_
  rintro e w2 ⟨rb, rc, rfl, hc2, hrb, hrc⟩
  have hw := hA.trans hc2
  clear hc2
  by_cases z : twoF t p q t = 0
  · have HF : Hid (interF t p q n = diffFault (applyR t p).1 (twoC t p q t) n) := if_pos z
    have HR : Hid (interR t p q n = diffR (applyR t p).1 (twoC t p q t) n) := if_pos z
    rw [z, errV_zero]
    clear z
    go_wp2_with fail
    refine (diff_any (applyR t p).1 (twoC t p q t) n _ _ _ hrb hrc hn m (hw.cellNever hm)).mono ?_
    rintro e w3 ⟨r3, rfl, hc3, hr3⟩
    rw [← HF.out]
    rw [← HR.out] at hr3
    go_wp2_with fail
    go_ret2
    exact ⟨r3, rfl, hw.trans hc3, hr3⟩
  · have HF : Hid (interF t p q n = twoF t p q t) := if_neg z
    have HR : Hid (interR t p q n = []) := if_neg z
    have Z := Lib.hid z
    rw [errV_pos z]
    clear z
    go_wp2_with fail
    go_ret2
    exact ⟨.slice none 0 0, by rw [HF.out, errV_pos Z.out]; rfl, hw, by rw [HR.out]; exact rdv_nil _ _⟩
end Go.Proofs.YtjiaidchcldocaaGreatDoor
namespace Go.Proofs.YtjiaidchcldocaaGreatDoor
open Go.RowKit

theorem joinFt_ok {t : List File} {p q : List Change} {n : Int} (h : (applyR t p).2.2 = 0) (g : (applyR (applyR t p).1 q).2.2 = 0) : joinFt t p q n = diffFault t (applyR (applyR t p).1 q).1 n ∧ joinRt t p q n = diffR t (applyR (applyR t p).1 q).1 n := by
  have e1 : twoF t p q (applyR t p).1 = 0 := by unfold twoF; rw [if_pos h, g]
  have e2 : twoC t p q (applyR t p).1 = (applyR (applyR t p).1 q).1 := if_pos h
  unfold joinFt joinRt
  rw [if_pos e1, if_pos e1, e2]
  exact ⟨rfl, rfl⟩
theorem inter_ok {t : List File} {p q : List Change} {n : Int} (h : (applyR t p).2.2 = 0) (g : (applyR t q).2.2 = 0) : interF t p q n = diffFault (applyR t p).1 (applyR t q).1 n ∧ interR t p q n = diffR (applyR t p).1 (applyR t q).1 n := by
  have e1 : twoF t p q t = 0 := by unfold twoF; rw [if_pos h, g]
  have e2 : twoC t p q t = (applyR t q).1 := if_pos h
  unfold interF interR
  rw [if_pos e1, if_pos e1, e2]
  exact ⟨rfl, rfl⟩
end Go.Proofs.YtjiaidchcldocaaGreatDoor
namespace Go.Proofs.YtjiaidchcldocaaGreatDoor
open Go.RowKit

/-! ### one: a closed fact -/
def oneP : List Change := [⟨2, ⟨#[97]⟩, [⟨0, 0, [⟨43, ⟨#[120]⟩⟩]⟩]⟩]
def oneT : ByteArray := ⟨#[116]⟩
theorem one_pack : packF oneT.data.toList [oneP] = 0 := by decide +kernel
theorem one_apply : applyR [] oneP = ([⟨⟨#[97]⟩, [⟨#[120]⟩]⟩], 0, 0) := by decide +kernel
theorem one_run : runF [] (packL oneT.data.toList [oneP]) = 0 ∧ runR [] (packL oneT.data.toList [oneP]) = [⟨⟨#[97]⟩, [⟨#[120]⟩]⟩] := by
  have ho : openMs (packL oneT.data.toList [oneP]) = (oneT.data.toList, [oneP], 0) := openMs_perm one_pack (List.Perm.refl _)
  have hr : runGoS [] [oneP] = ([⟨⟨#[97]⟩, [⟨#[120]⟩]⟩], 0) := by
    rw [runGoS, one_apply]; rfl
  have hf : runF [] (packL oneT.data.toList [oneP]) = 0 := by
    unfold runF
    rw [ho, hr]; rfl
  refine ⟨hf, ?_⟩
  unfold runR
  rw [if_pos hf, ho, hr]
theorem one_lit {w W : World} (hW : W = (((w.alloc (.cells #[.int .u8 43, .string ⟨#[120]⟩] 126)).alloc (.cells #[.int .i64 0, .int .i64 0, .slice (some ⟨w.heap.size, 0, none⟩) 1 1] 129)).alloc (.cells #[.int .i64 2, .string ⟨#[97]⟩, .slice (some ⟨w.heap.size + 1, 0, none⟩) 1 1] 85)).alloc (.cells #[.slice (some ⟨w.heap.size + 1 + 1, 0, none⟩) 1 1] 51)) :
    Chg Never w W ∧ Rdv W Never (.slice (some ⟨w.heap.size + 1 + 1 + 1, 0, none⟩) 1 1) [oneP] := by
  obtain ⟨w1, e1⟩ : ∃ x, x = w.alloc (.cells #[.int .u8 43, .string ⟨#[120]⟩] 126) := ⟨_, rfl⟩
  obtain ⟨w2, e2⟩ : ∃ x, x = w1.alloc (.cells #[.int .i64 0, .int .i64 0, .slice (some ⟨w.heap.size, 0, none⟩) 1 1] 129) := ⟨_, rfl⟩
  obtain ⟨w3, e3⟩ : ∃ x, x = w2.alloc (.cells #[.int .i64 2, .string ⟨#[97]⟩, .slice (some ⟨w.heap.size + 1, 0, none⟩) 1 1] 85) := ⟨_, rfl⟩
  have s1 : w1.heap.size = w.heap.size + 1 := by rw [e1, World.size_alloc]
  have s2 : w2.heap.size = w.heap.size + 1 + 1 := by rw [e2, World.size_alloc, s1]
  have s3 : w3.heap.size = w.heap.size + 1 + 1 + 1 := by rw [e3, World.size_alloc, s2]
  rw [← e1, ← e2, ← e3] at hW
  have c1 : Chg Never w w1 := by rw [e1]; exact (Chg.refl Never w).alloc _
  have c2 : Chg Never w1 w2 := by rw [e2]; exact (Chg.refl Never w1).alloc _
  have c3 : Chg Never w2 w3 := by rw [e3]; exact (Chg.refl Never w2).alloc _
  have c4 : Chg Never w3 W := by rw [hW]; exact (Chg.refl Never w3).alloc _
  have h1 : Rdv w1 Never (.slice (some ⟨w.heap.size, 0, none⟩) 1 1) [(⟨43, ⟨#[120]⟩⟩ : Mark)] := by
    rw [e1]
    exact rdv_lit (e := 126) (cs := [.int .u8 43, .string ⟨#[120]⟩]) (heap_alloc_new _ _) rfl (by decide) ⟨⟨rfl, by decide, by decide, by decide⟩, trivial⟩
  have h2 : Rdv w2 Never (.slice (some ⟨w.heap.size + 1, 0, none⟩) 1 1) [(⟨0, 0, [⟨43, ⟨#[120]⟩⟩]⟩ : Hunk)] := by
    have n := heap_alloc_new w1 (.cells #[.int .i64 0, .int .i64 0, .slice (some ⟨w.heap.size, 0, none⟩) 1 1] 129)
    rw [s1, ← e2] at n
    exact rdv_lit (e := 129) (cs := [.int .i64 0, .int .i64 0, .slice (some ⟨w.heap.size, 0, none⟩) 1 1]) n rfl (by decide) ⟨⟨_, rfl, h1.never c2⟩, trivial⟩
  have h3 : Rdv w3 Never (.slice (some ⟨w.heap.size + 1 + 1, 0, none⟩) 1 1) oneP := by
    have n := heap_alloc_new w2 (.cells #[.int .i64 2, .string ⟨#[97]⟩, .slice (some ⟨w.heap.size + 1, 0, none⟩) 1 1] 85)
    rw [s2, ← e3] at n
    exact rdv_lit (e := 85) (cs := [.int .i64 2, .string ⟨#[97]⟩, .slice (some ⟨w.heap.size + 1, 0, none⟩) 1 1]) n rfl (by decide) ⟨⟨_, rfl, by decide, h2.never c3⟩, trivial⟩
  refine ⟨((c1.trans c2).trans c3).trans c4, ?_⟩
  have n := heap_alloc_new w3 (.cells #[.slice (some ⟨w.heap.size + 1 + 1, 0, none⟩) 1 1] 51)
  rw [s3, ← hW] at n
  exact rdv_lit (e := 51) (cs := [.slice (some ⟨w.heap.size + 1 + 1, 0, none⟩) 1 1]) n rfl (by decide) ⟨h3.never c4, trivial⟩
set_option maxHeartbeats 2000000 in
set_option maxRecDepth 100000 in
theorem top_one (w : World) (mx : Int) (hg : Globs w mx) : Calls Tryz.prog 24 #[] w fun e w' => e = .returned (.bool true) ∧ Chg Never w w' := by
  have HP0 : packF oneT.data.toList [oneP] = 0 := one_pack
  have HPR : packR oneT.data.toList [oneP] = packL oneT.data.toList [oneP] := if_pos one_pack
  have HRF := Lib.hid one_run.1
  have HRR := Lib.hid one_run.2
  obtain ⟨W, hW⟩ : ∃ W, W = (((w.alloc (.cells #[.int .u8 43, .string ⟨#[120]⟩] 126)).alloc (.cells #[.int .i64 0, .int .i64 0, .slice (some ⟨w.heap.size, 0, none⟩) 1 1] 129)).alloc (.cells #[.int .i64 2, .string ⟨#[97]⟩, .slice (some ⟨w.heap.size + 1, 0, none⟩) 1 1] 85)).alloc (.cells #[.slice (some ⟨w.heap.size + 1 + 1, 0, none⟩) 1 1] 51) := ⟨_, rfl⟩
  obtain ⟨hc0, hp⟩ := one_lit hW
  go_enter Tryz.func24, Tryz.ntmps24
  go_wp2_with fail
  rw [← hW]
  clear hW
  refine (pack_any oneT [oneP] _ _ hp (by decide) mx (hg.never hc0).ml).mono ?_
  rintro e w1 ⟨r1, rfl, hc1, hr1⟩
  rw [HP0, errV_zero]
  rw [HPR] at hr1
  clear HP0 HPR
  have hll : (packL oneT.data.toList [oneP]).length = 2 := rfl
  obtain ⟨ra, rc, rfl, _, _, _⟩ := rdv_slice hr1
  have hw := hc0.trans hc1
  generalize packL oneT.data.toList [oneP] = l at hr1 HRF HRR hll ⊢
  have hl2 : ((l.length : Int) != 2) = false := by rw [hll]; rfl
  have hl3 : ((l.length : Int) == 2) = true := by rw [hll]; rfl
  have hl9 : l.length ≤ 1000000000 := by omega
  clear hll hp
  go_wp2_with fail
  refine (srun_any [] l _ _ _ (rdv_nil _ _) hr1 hl9 mx (hg.never hw)).mono ?_
  rintro e w2 ⟨r2, rfl, hc2, hr2⟩
  rw [HRF.out, errV_zero]
  rw [HRR.out] at hr2
  obtain ⟨sa, sc, rfl, _, _, s3⟩ := rdv_slice hr2
  obtain ⟨b, off, lv, rfl, _, _, g0, g1, _, hlv⟩ := elems_file s3 (i := 0) rfl
  obtain ⟨la, lc, rfl, _, _, _⟩ := rdv_slice hlv
  simp only [Nat.zero_mul, Nat.add_zero] at g0 g1
  have hw := hw.trans hc2
  clear hr2 s3 hlv hr1 hc1 hc2 HRF HRR
  go_wp2_with fail
  go_ret
  exact ⟨rfl, hw⟩

/-! ### found, last -/
end Go.Proofs.YtjiaidchcldocaaGreatDoor
