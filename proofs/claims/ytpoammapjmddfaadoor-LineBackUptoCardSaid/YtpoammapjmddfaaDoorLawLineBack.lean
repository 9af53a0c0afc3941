/-
  THE LAW LineBack, walked.
-/
import Derived.Test.YtpoammapjmddfaaDoorTextB
namespace Go.Proofs.YtpoammapjmddfaaDoor
open Go.RowKit

theorem parts_append (d : UInt8) (b : List UInt8) : ∀ a, parts d (a ++ d :: b) = parts d a ++ parts d b
  | [] => by rw [List.nil_append, parts_sep]; rfl
  | c :: a => by
    by_cases h : c = d
    · subst h
      rw [List.cons_append, parts_sep, parts_sep, parts_append c b a, List.cons_append]
    · obtain ⟨h', t, e⟩ := List.exists_cons_of_ne_nil (parts_ne d a)
      rw [List.cons_append, parts_other h e, parts_other (h' := h') (t := t ++ parts d b) h (by rw [parts_append d b a, e]; rfl), List.cons_append]
theorem path_longer {p : ByteArray} (h : pathFault p = 0) (hl : p.size ≤ 18) : pathFault (p ++ (⟨#[47, 120]⟩ : ByteArray)) = 0 ∧ pathFault (p ++ (⟨#[47]⟩ : ByteArray)) = 5 := by
  have h20 : ¬ 20 < p.size := by omega
  have hall : ∀ x ∈ parts 47 p.data.toList, nameOk x = true := by
    intro x hx
    cases hb : nameOk x with
    | true => rfl
    | false => rw [pathFault_bad h20 hx hb] at h; cases h
  have e1 : (p ++ ⟨#[47, 120]⟩ : ByteArray).data.toList = p.data.toList ++ 47 :: [120] := by rw [bytes_append]
  have e2 : (p ++ ⟨#[47]⟩ : ByteArray).data.toList = p.data.toList ++ 47 :: [] := by rw [bytes_append]
  have s1 : (p ++ ⟨#[47, 120]⟩ : ByteArray).size = p.size + 2 := by rw [ByteArray.size_append]; rfl
  have s2 : (p ++ ⟨#[47]⟩ : ByteArray).size = p.size + 1 := by rw [ByteArray.size_append]; rfl
  refine ⟨pathFault_ok (by omega) ?_, pathFault_bad (by omega) (x := []) ?_ rfl⟩
  · rw [e1, parts_append]
    intro x hx
    rcases List.mem_append.1 hx with hx | hx
    · exact hall x hx
    · have : parts 47 [120] = [[120]] := rfl
      rw [this, List.mem_singleton] at hx
      subst hx; decide
  · rw [e2, parts_append]
    exact List.mem_append_right _ (List.mem_cons_self ..)
abbrev lbA : ByteArray := ⟨#[97]⟩
abbrev lbE : ByteArray := ⟨#[]⟩
theorem lb_fact : linesFault [lbA, lbE] = 0 ∧ joinR [lbA, lbE] = ⟨#[97, 10, 10]⟩ := by decide
theorem joinR_size (l : List ByteArray) : (joinR l).size ≤ 4860 := by
  unfold joinR
  by_cases h : linesFault l = 0
  · rw [if_pos h]
    have h1 := joinL_size (linesFault_size h)
    have h2 := linesFault_len h
    unfold joinOf
    rw [Lib.size_eq, toB_data]; omega
  · rw [if_neg h]; exact Nat.zero_le _

set_option maxHeartbeats 4000000 in
set_option maxRecDepth 100000 in
theorem law_lineBack (l : List ByteArray) (s p : ByteArray) (vl : Value) (w : World) (hl : Rdv w Never vl l) (hs : s.size ≤ 1048576) (_hp : p.size ≤ 1048576) (m : Int) (hm : w.cell? ⟨1, 0, none⟩ = some (.int .i64 m)) :
    Calls Tryd.prog 3 #[vl, .string s, .string p] w fun e w' => e = .returned (.bool true) ∧ Chg Never w w' := by
  have HS := Lib.hid hs
  go_enter Tryd.func3, Tryd.ntmps3
  go_wp2_with fail
  refine (line_join_any [lbA, lbE] _ _ (rdv_lit (cs := [.string lbA, .string lbE]) (heap_alloc_new _ _) rfl (by simp) ⟨⟨rfl, by unfold maxLen; decide⟩, ⟨rfl, by unfold maxLen; decide⟩, trivial⟩)).mono ?_
  rintro e w1 ⟨rfl, hc1⟩
  have hw := ((Chg.refl Never w).alloc _).trans hc1
  clear hc1
  rw [lb_fact.1, lb_fact.2, errV_zero]
  go_wp2_with fail
  refine (line_join_any l _ _ (hl.never hw)).mono ?_
  rintro e w2 ⟨rfl, hc2⟩
  have hw := hw.trans hc2
  clear hc2
  by_cases z1 : linesFault l = 0
  · have Z1 := Lib.hid (split_join z1)
    have HJ : Hid (joinR l = joinOf l) := if_pos z1
    have hjs := joinR_size l
    have HJS := Lib.hid hjs
    rw [z1, errV_zero]
    clear z1 hjs
    go_wp2_with fail
    refine (line_split_any (joinR l) _ (by have := HJS.out; omega) m (hw.cellNever hm)).mono ?_
    rintro e w3 ⟨r3, rfl, hc3, hr3⟩
    have hw := hw.trans hc3
    have hr3 := hr3.sub (O' := Never) (fun _ _ h => h.elim)
    clear hc3
    rw [HJ.out, Z1.out.1, errV_zero]
    rw [HJ.out, Z1.out.2] at hr3
    go_wp2_with fail
    refine (texts_any _ _ _ _ _ hr3 (hl.never hw)).mono ?_
    rintro e w4 ⟨rfl, hc4⟩
    have hw := hw.trans hc4
    rw [decide_eq_true rfl]
    clear hc4 hr3
    go_wp2_with fail
    refine (line_split_any s _ (by omega) m (hw.cellNever hm)).mono ?_
    rintro e ws1 ⟨rs1, rfl, hcs1, hrs1⟩
    have hw := hw.trans hcs1
    have hrs1 := hrs1.sub (O' := Never) (fun _ _ h => h.elim)
    clear hcs1
    by_cases z2 : splitFault s = 0
    · have Z2 := Lib.hid (join_split z2)
      have HJ2 : Hid (joinR (splitR s) = s) := by unfold Hid joinR; rw [if_pos Z2.out.1, Z2.out.2]
      rw [z2, errV_zero]
      clear z2
      go_wp2_with fail
      refine (line_join_any (splitR s) _ _ hrs1).mono ?_
      rintro e ws2 ⟨rfl, hcs2⟩
      have hw := hw.trans hcs2
      clear hcs2 hrs1
      rw [HJ2.out, Z2.out.1, errV_zero]
      by_cases z3 : pathFault p = 0
      · have Z3 := Lib.hid z3
        by_cases z4 : p.size ≤ 18
        · have t4 := decide_eq_true z4
          have HP1 := Lib.hid (path_longer z3 z4).1
          have HP2 := Lib.hid (path_longer z3 z4).2
          clear z3
          go_wp2_with fail
          refine (line_path_any p _ m (hw.cellNever hm)).mono ?_
          rintro e wp1 ⟨rfl, hp1⟩
          have hw := hw.trans hp1
          clear hp1
          rw [Z3.out, errV_zero]
          go_wp2_with fail
          refine (line_path_any (p ++ (⟨#[47, 120]⟩ : ByteArray)) _ m (hw.cellNever hm)).mono ?_
          rintro e wp2 ⟨rfl, hp2⟩
          have hw := hw.trans hp2
          clear hp2
          rw [HP1.out, errV_zero]
          go_wp2_with fail
          refine (line_path_any (p ++ (⟨#[47]⟩ : ByteArray)) _ m (hw.cellNever hm)).mono ?_
          rintro e wp3 ⟨rfl, hp3⟩
          have hw := hw.trans hp3
          clear hp3
          rw [HP2.out, errV_pos (k := 5) (by decide)]
          go_wp2_with fail
          go_ret
          exact ⟨rfl, hw⟩
        · have t4 := decide_eq_false z4
          clear z3
          go_wp2_with fail
          refine (line_path_any p _ m (hw.cellNever hm)).mono ?_
          rintro e wp1 ⟨rfl, hp1⟩
          have hw := hw.trans hp1
          clear hp1
          rw [Z3.out, errV_zero]
          go_wp2_with fail
          go_ret
          exact ⟨rfl, hw⟩
      · have Z3 := Lib.hid z3
        clear z3
        go_wp2_with fail
        refine (line_path_any p _ m (hw.cellNever hm)).mono ?_
        rintro e wp1 ⟨rfl, hp1⟩
        have hw := hw.trans hp1
        clear hp1
        rw [errV_pos Z3.out]
        go_wp2_with fail
        go_ret
        exact ⟨rfl, hw⟩
    · rw [errV_pos z2]
      clear z2 hrs1
      by_cases z3 : pathFault p = 0
      · have Z3 := Lib.hid z3
        by_cases z4 : p.size ≤ 18
        · have t4 := decide_eq_true z4
          have HP1 := Lib.hid (path_longer z3 z4).1
          have HP2 := Lib.hid (path_longer z3 z4).2
          clear z3
          go_wp2_with fail
          refine (line_path_any p _ m (hw.cellNever hm)).mono ?_
          rintro e wp1 ⟨rfl, hp1⟩
          have hw := hw.trans hp1
          clear hp1
          rw [Z3.out, errV_zero]
          go_wp2_with fail
          refine (line_path_any (p ++ (⟨#[47, 120]⟩ : ByteArray)) _ m (hw.cellNever hm)).mono ?_
          rintro e wp2 ⟨rfl, hp2⟩
          have hw := hw.trans hp2
          clear hp2
          rw [HP1.out, errV_zero]
          go_wp2_with fail
          refine (line_path_any (p ++ (⟨#[47]⟩ : ByteArray)) _ m (hw.cellNever hm)).mono ?_
          rintro e wp3 ⟨rfl, hp3⟩
          have hw := hw.trans hp3
          clear hp3
          rw [HP2.out, errV_pos (k := 5) (by decide)]
          go_wp2_with fail
          go_ret
          exact ⟨rfl, hw⟩
        · have t4 := decide_eq_false z4
          clear z3
          go_wp2_with fail
          refine (line_path_any p _ m (hw.cellNever hm)).mono ?_
          rintro e wp1 ⟨rfl, hp1⟩
          have hw := hw.trans hp1
          clear hp1
          rw [Z3.out, errV_zero]
          go_wp2_with fail
          go_ret
          exact ⟨rfl, hw⟩
      · have Z3 := Lib.hid z3
        clear z3
        go_wp2_with fail
        refine (line_path_any p _ m (hw.cellNever hm)).mono ?_
        rintro e wp1 ⟨rfl, hp1⟩
        have hw := hw.trans hp1
        clear hp1
        rw [errV_pos Z3.out]
        go_wp2_with fail
        go_ret
        exact ⟨rfl, hw⟩
  · rw [errV_pos z1]
    clear z1
    go_wp2_with fail
    refine (line_split_any s _ (by omega) m (hw.cellNever hm)).mono ?_
    rintro e ws1 ⟨rs1, rfl, hcs1, hrs1⟩
    have hw := hw.trans hcs1
    have hrs1 := hrs1.sub (O' := Never) (fun _ _ h => h.elim)
    clear hcs1
    by_cases z2 : splitFault s = 0
    · have Z2 := Lib.hid (join_split z2)
      have HJ2 : Hid (joinR (splitR s) = s) := by unfold Hid joinR; rw [if_pos Z2.out.1, Z2.out.2]
      rw [z2, errV_zero]
      clear z2
      go_wp2_with fail
      refine (line_join_any (splitR s) _ _ hrs1).mono ?_
      rintro e ws2 ⟨rfl, hcs2⟩
      have hw := hw.trans hcs2
      clear hcs2 hrs1
      rw [HJ2.out, Z2.out.1, errV_zero]
      by_cases z3 : pathFault p = 0
      · have Z3 := Lib.hid z3
        by_cases z4 : p.size ≤ 18
        · have t4 := decide_eq_true z4
          have HP1 := Lib.hid (path_longer z3 z4).1
          have HP2 := Lib.hid (path_longer z3 z4).2
          clear z3
          go_wp2_with fail
          refine (line_path_any p _ m (hw.cellNever hm)).mono ?_
          rintro e wp1 ⟨rfl, hp1⟩
          have hw := hw.trans hp1
          clear hp1
          rw [Z3.out, errV_zero]
          go_wp2_with fail
          refine (line_path_any (p ++ (⟨#[47, 120]⟩ : ByteArray)) _ m (hw.cellNever hm)).mono ?_
          rintro e wp2 ⟨rfl, hp2⟩
          have hw := hw.trans hp2
          clear hp2
          rw [HP1.out, errV_zero]
          go_wp2_with fail
          refine (line_path_any (p ++ (⟨#[47]⟩ : ByteArray)) _ m (hw.cellNever hm)).mono ?_
          rintro e wp3 ⟨rfl, hp3⟩
          have hw := hw.trans hp3
          clear hp3
          rw [HP2.out, errV_pos (k := 5) (by decide)]
          go_wp2_with fail
          go_ret
          exact ⟨rfl, hw⟩
        · have t4 := decide_eq_false z4
          clear z3
          go_wp2_with fail
          refine (line_path_any p _ m (hw.cellNever hm)).mono ?_
          rintro e wp1 ⟨rfl, hp1⟩
          have hw := hw.trans hp1
          clear hp1
          rw [Z3.out, errV_zero]
          go_wp2_with fail
          go_ret
          exact ⟨rfl, hw⟩
      · have Z3 := Lib.hid z3
        clear z3
        go_wp2_with fail
        refine (line_path_any p _ m (hw.cellNever hm)).mono ?_
        rintro e wp1 ⟨rfl, hp1⟩
        have hw := hw.trans hp1
        clear hp1
        rw [errV_pos Z3.out]
        go_wp2_with fail
        go_ret
        exact ⟨rfl, hw⟩
    · rw [errV_pos z2]
      clear z2 hrs1
      by_cases z3 : pathFault p = 0
      · have Z3 := Lib.hid z3
        by_cases z4 : p.size ≤ 18
        · have t4 := decide_eq_true z4
          have HP1 := Lib.hid (path_longer z3 z4).1
          have HP2 := Lib.hid (path_longer z3 z4).2
          clear z3
          go_wp2_with fail
          refine (line_path_any p _ m (hw.cellNever hm)).mono ?_
          rintro e wp1 ⟨rfl, hp1⟩
          have hw := hw.trans hp1
          clear hp1
          rw [Z3.out, errV_zero]
          go_wp2_with fail
          refine (line_path_any (p ++ (⟨#[47, 120]⟩ : ByteArray)) _ m (hw.cellNever hm)).mono ?_
          rintro e wp2 ⟨rfl, hp2⟩
          have hw := hw.trans hp2
          clear hp2
          rw [HP1.out, errV_zero]
          go_wp2_with fail
          refine (line_path_any (p ++ (⟨#[47]⟩ : ByteArray)) _ m (hw.cellNever hm)).mono ?_
          rintro e wp3 ⟨rfl, hp3⟩
          have hw := hw.trans hp3
          clear hp3
          rw [HP2.out, errV_pos (k := 5) (by decide)]
          go_wp2_with fail
          go_ret
          exact ⟨rfl, hw⟩
        · have t4 := decide_eq_false z4
          clear z3
          go_wp2_with fail
          refine (line_path_any p _ m (hw.cellNever hm)).mono ?_
          rintro e wp1 ⟨rfl, hp1⟩
          have hw := hw.trans hp1
          clear hp1
          rw [Z3.out, errV_zero]
          go_wp2_with fail
          go_ret
          exact ⟨rfl, hw⟩
      · have Z3 := Lib.hid z3
        clear z3
        go_wp2_with fail
        refine (line_path_any p _ m (hw.cellNever hm)).mono ?_
        rintro e wp1 ⟨rfl, hp1⟩
        have hw := hw.trans hp1
        clear hp1
        rw [errV_pos Z3.out]
        go_wp2_with fail
        go_ret
        exact ⟨rfl, hw⟩
end Go.Proofs.YtpoammapjmddfaaDoor
