/-
  PARTS: THE WALK of the document's PatchText (handstitchref2).; THE SHAPE OF A CHANGE AS THE DOCUMENT ASKS FOR IT, in plain Lean.
-/
import Derived.Test.YtgabchhplmncnaaGreatDoorPackRi6
import Derived.Test.YtgabchhplmncnaaGreatDoorPackRi4
namespace Go.Proofs.YtgabchhplmncnaaGreatDoor
open Go.RowKit

set_option maxHeartbeats 2000000 in
set_option maxRecDepth 100000 in
theorem refPatchText_any (p : List Change) (v : Value) (w : World) (h : Rdv w Never v p) (hz : (patchFault p).2 = 0) :
    Calls Tryz.prog 39 #[v] w fun e w' => e = .returned (.string (toB (textG p))) ∧ Chg Never w w' := by
  obtain ⟨p16, pall⟩ := patch_each hz
  have hTL := (changes_ok p pall).2
  have HALL := Lib.hid pall
  obtain ⟨a, cap, rfl, h1, h2, h3⟩ := rdv_slice h
  unfold maxLen at h2
  clear hz pall h
  go_enter Tryz.func39, Tryz.ntmps39
  go_wp2_with fail
  go_loopw [3, 4] (fun sv i wr => ∃ (k : Nat) (acc : ByteArray), k ≤ p.length ∧ i = .int .i64 k ∧ sv = .string acc ∧ acc.size ≤ 181440 ∧ Hid (acc = toB (textG (p.take k))) ∧ Chg Never w wr) (fun _ i _ => p.length - (intOf i).toNat)
  case atStart => exact ⟨0, _, Nat.zero_le _, rfl, rfl, Nat.zero_le _, rfl, Chg.refl _ _⟩
  case round =>
    obtain ⟨k, acc, hk, rfl, rfl, hzA, hJ, hc⟩ := hrel
    rename World => wr
    by_cases hlt : k < p.length
    · obtain ⟨x, hx⟩ : ∃ x, p[k]? = some x := ⟨p[k], by simp [hlt]⟩
      obtain ⟨b', off, mv, rfl, -, -, c0, c1, c2, hxp, hmv⟩ := elems_change h3 hx
      have c0 := hc.cellNever c0
      have c1 := hc.cellNever c1
      have c2 := hc.cellNever c2
      have hmr := hmv.never hc
      obtain ⟨ma, mc, rfl, -, -, -⟩ := rdv_slice hmv
      obtain ⟨x1, x2, x3⟩ := change_ok (HALL.out x (List.mem_of_getElem? hx))
      obtain ⟨xl, -⟩ := path_fine x2
      have X3 := Lib.hid x3
      have HT := Lib.hid (textG_take hx)
      have hTk := @textG_mono p k
      have hTk1 := @textG_mono p (k + 1)
      have hUl : (textU x.hunks).length ≤ (textG (p.take (k + 1))).length := by rw [HT.out]; simp only [List.length_append]; omega
      have hpz : x.path.size ≤ 20 := by rw [Lib.size_eq]; exact xl
      have n1 : ¬ (9223372036854775807 < 2 + x.path.size) := by omega
      clear hx h3 hmv x2 x3 xl
      rcases x1 with x1 | x1 | x1
      · have q2 : (x.what == 2) = false := by rw [x1]; rfl
        have q3 : (x.what == 3) = false := by rw [x1]; rfl
        have XW := Lib.hid x1
        have HS : Hid ((⟨#[45, 45, 45, 32]⟩ : ByteArray) ++ ((⟨#[97, 47]⟩ : ByteArray) ++ x.path) ++ ⟨#[10, 43, 43, 43, 32]⟩ ++ ((⟨#[98, 47]⟩ : ByteArray) ++ x.path) ++ ⟨#[10]⟩ = toB (mmL ++ fromL x.what x.path.data.toList ++ [10] ++ (ppL ++ toL x.what x.path.data.toList ++ [10]))) := gp_str _ _ _ _ (by (rw [XW.out]; exact gp_pre 97 47 x.path)) (by (rw [XW.out]; exact gp_pre 98 47 x.path))
        have hFz : ((⟨#[97, 47]⟩ : ByteArray) ++ x.path : ByteArray).size ≤ 22 := by (rw [ByteArray.size_append]; show 2 + x.path.size ≤ 22; omega)
        have hTz : ((⟨#[98, 47]⟩ : ByteArray) ++ x.path : ByteArray).size ≤ 22 := by (rw [ByteArray.size_append]; show 2 + x.path.size ≤ 22; omega)
        have HF : Hid (acc ++ ⟨#[45, 45, 45, 32]⟩ ++ ((⟨#[97, 47]⟩ : ByteArray) ++ x.path) ++ ⟨#[10, 43, 43, 43, 32]⟩ ++ ((⟨#[98, 47]⟩ : ByteArray) ++ x.path) ++ ⟨#[10]⟩ ++ toB (textU x.hunks) = toB (textG (p.take (k + 1)))) := by
          rw [Hid, HT.out, toB_append, toB_append, ← hJ.out, ← HS.out]
          simp only [ByteArray.append_assoc]
        have hUz : (toB (textU x.hunks)).size ≤ 200000 := by rw [toB_size']; omega
        clear x1
        go_wp2_with fail
        refine (refHunksText_any x.hunks _ _ hmr X3.out).mono ?_
        rintro e w5 ⟨rfl, hc5⟩
        clear c0 c1 c2
        go_wp2_with fail
        go_roundw
        case rel => exact ⟨k + 1, _, by omega, by go_num, rfl, by rw [HF.out, toB_size']; omega, HF.out, hc.trans hc5⟩
        case measure => simp [intOf]; omega
      · have q2 : (x.what == 2) = true := by rw [x1]; rfl
        have q3 : (x.what == 3) = false := by rw [x1]; rfl
        have XW := Lib.hid x1
        have HS : Hid ((⟨#[45, 45, 45, 32]⟩ : ByteArray) ++ ((⟨#[47, 100, 101, 118, 47, 110, 117, 108, 108]⟩ : ByteArray)) ++ ⟨#[10, 43, 43, 43, 32]⟩ ++ ((⟨#[98, 47]⟩ : ByteArray) ++ x.path) ++ ⟨#[10]⟩ = toB (mmL ++ fromL x.what x.path.data.toList ++ [10] ++ (ppL ++ toL x.what x.path.data.toList ++ [10]))) := gp_str _ _ _ _ (by (rw [XW.out]; rfl)) (by (rw [XW.out]; exact gp_pre 98 47 x.path))
        have hFz : ((⟨#[47, 100, 101, 118, 47, 110, 117, 108, 108]⟩ : ByteArray) : ByteArray).size ≤ 22 := by decide
        have hTz : ((⟨#[98, 47]⟩ : ByteArray) ++ x.path : ByteArray).size ≤ 22 := by (rw [ByteArray.size_append]; show 2 + x.path.size ≤ 22; omega)
        have HF : Hid (acc ++ ⟨#[45, 45, 45, 32]⟩ ++ ((⟨#[47, 100, 101, 118, 47, 110, 117, 108, 108]⟩ : ByteArray)) ++ ⟨#[10, 43, 43, 43, 32]⟩ ++ ((⟨#[98, 47]⟩ : ByteArray) ++ x.path) ++ ⟨#[10]⟩ ++ toB (textU x.hunks) = toB (textG (p.take (k + 1)))) := by
          rw [Hid, HT.out, toB_append, toB_append, ← hJ.out, ← HS.out]
          simp only [ByteArray.append_assoc]
        have hUz : (toB (textU x.hunks)).size ≤ 200000 := by rw [toB_size']; omega
        clear x1
        go_wp2_with fail
        refine (refHunksText_any x.hunks _ _ hmr X3.out).mono ?_
        rintro e w5 ⟨rfl, hc5⟩
        clear c0 c1 c2
        go_wp2_with fail
        go_roundw
        case rel => exact ⟨k + 1, _, by omega, by go_num, rfl, by rw [HF.out, toB_size']; omega, HF.out, hc.trans hc5⟩
        case measure => simp [intOf]; omega
      · have q2 : (x.what == 2) = false := by rw [x1]; rfl
        have q3 : (x.what == 3) = true := by rw [x1]; rfl
        have XW := Lib.hid x1
        have HS : Hid ((⟨#[45, 45, 45, 32]⟩ : ByteArray) ++ ((⟨#[97, 47]⟩ : ByteArray) ++ x.path) ++ ⟨#[10, 43, 43, 43, 32]⟩ ++ ((⟨#[47, 100, 101, 118, 47, 110, 117, 108, 108]⟩ : ByteArray)) ++ ⟨#[10]⟩ = toB (mmL ++ fromL x.what x.path.data.toList ++ [10] ++ (ppL ++ toL x.what x.path.data.toList ++ [10]))) := gp_str _ _ _ _ (by (rw [XW.out]; exact gp_pre 97 47 x.path)) (by (rw [XW.out]; rfl))
        have hFz : ((⟨#[97, 47]⟩ : ByteArray) ++ x.path : ByteArray).size ≤ 22 := by (rw [ByteArray.size_append]; show 2 + x.path.size ≤ 22; omega)
        have hTz : ((⟨#[47, 100, 101, 118, 47, 110, 117, 108, 108]⟩ : ByteArray) : ByteArray).size ≤ 22 := by decide
        have HF : Hid (acc ++ ⟨#[45, 45, 45, 32]⟩ ++ ((⟨#[97, 47]⟩ : ByteArray) ++ x.path) ++ ⟨#[10, 43, 43, 43, 32]⟩ ++ ((⟨#[47, 100, 101, 118, 47, 110, 117, 108, 108]⟩ : ByteArray)) ++ ⟨#[10]⟩ ++ toB (textU x.hunks) = toB (textG (p.take (k + 1)))) := by
          rw [Hid, HT.out, toB_append, toB_append, ← hJ.out, ← HS.out]
          simp only [ByteArray.append_assoc]
        have hUz : (toB (textU x.hunks)).size ≤ 200000 := by rw [toB_size']; omega
        clear x1
        go_wp2_with fail
        refine (refHunksText_any x.hunks _ _ hmr X3.out).mono ?_
        rintro e w5 ⟨rfl, hc5⟩
        clear c0 c1 c2
        go_wp2_with fail
        go_roundw
        case rel => exact ⟨k + 1, _, by omega, by go_num, rfl, by rw [HF.out, toB_size']; omega, HF.out, hc.trans hc5⟩
        case measure => simp [intOf]; omega
    · rw [List.take_of_length_le (by omega)] at hJ
      go_wp2_with fail
      go_ret
      exact ⟨by rw [← hJ.out]; rfl, hc⟩
end Go.Proofs.YtgabchhplmncnaaGreatDoor
namespace Go.Proofs.YtgabchhplmncnaaGreatDoor

theorem allSign_those (l : List Mark) (s : Int) : allSign l s = decide ((those l s).length = 0) := by
  unfold allSign those
  rw [List.length_map]
  induction l with
  | nil => rfl
  | cons m r ih =>
    rw [List.all_cons, ih, List.filter_cons]
    by_cases h : m.sign = s
    · simp [h]
    · simp [h]
theorem shape_edit0 {c : Change} (h : c.what = 1) (g : c.hunks = []) : shapeB c = false := by
  unfold shapeB; rw [if_neg (by rw [h]; decide), if_neg (by rw [h]; decide), g]; rfl
theorem shape_edit {c : Change} (h : c.what = 1) (g : c.hunks ≠ []) : shapeB c = true := by
  unfold shapeB
  rw [if_neg (by rw [h]; decide), if_neg (by rw [h]; decide)]
  cases hh : c.hunks with
  | nil => exact absurd hh g
  | cons x r => rfl
theorem shape_of {c : Change} (h : c.what = 2 ∨ c.what = 3) : shapeB c = wholeB c.hunks (if c.what = 2 then 43 else 45) := by
  unfold shapeB
  by_cases e : c.what = 2
  · rw [if_pos e, if_pos e]
  · rw [if_neg e, if_neg e, if_pos (h.resolve_left e)]
theorem shape_many {c : Change} (h : c.what = 2 ∨ c.what = 3) (g : 2 ≤ c.hunks.length) : shapeB c = false := by rw [shape_of h, wholeB_many g]
theorem shape_none {c : Change} (h : c.what = 2 ∨ c.what = 3) (g : c.hunks = []) : shapeB c = true := by rw [shape_of h, g]; rfl
theorem shape_one {c : Change} {x : Hunk} (h : c.what = 2 ∨ c.what = 3) (g : c.hunks = [x]) (f : (hunksFault c.hunks).2 = 0) : shapeB c = (decide (x.old = 0) && decide ((those x.marks (if c.what = 2 then 43 else 45)).length = 0)) := by
  rw [shape_of h, g, wholeB_one, allSign_those]
  have e : x.new = x.old := by
    rw [g] at f
    have := ((hunksFault_zero f).2).1
    have := (oneFault_zero this).2.2.2.2.2.2.2
    omega
  by_cases o : x.old = 0
  · rw [decide_eq_true o, decide_eq_true (by omega)]; rfl
  · rw [decide_eq_false o]; rfl
/-- a place where a patch stands no longer -/
theorem pg_bad {t : List Change} {k : Nat} {f : Change} {prev : Option ByteArray} (hd : t.drop k = f :: t.drop (k + 1)) (h1 : changeFault f = 0 ∨ changeFault f = 2) (h2 : shapeB f = false ∨ prev.any (fun p => leqB f.path p) = true) (hs : shapeB f = false → changeFault f = 2) : patchGo k prev (t.drop k) = (k, 2) := by
  rw [hd, patchGo]
  by_cases e : changeFault f ≠ 0
  · rw [if_pos e, h1.resolve_left e]
  · rw [if_neg e]
    rcases h2 with h2 | h2
    · exact absurd (by rw [hs h2]; decide) e
    · rw [if_pos h2]
end Go.Proofs.YtgabchhplmncnaaGreatDoor
