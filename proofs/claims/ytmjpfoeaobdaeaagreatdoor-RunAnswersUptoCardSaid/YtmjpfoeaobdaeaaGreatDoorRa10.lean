/-
  PARTS: THE WALK of tree.Put.; THE FAULTS OF Get, Drop, Put BY PLACES, in plain Lean.; WHAT IS PUT IS THERE, in plain Lean.; WHAT LIES BETWEEN TWO TREES, in plain Lean: file by file of two sorted lists; the document's way by all paths of both is the same.; PATCHES, in plain Lean (chapter 2): what may be one, what is done to a tree, turned it leads back.
-/
import Derived.Test.YtmjpfoeaobdaeaaGreatDoorRa2
import Derived.Test.YtmjpfoeaobdaeaaGreatDoorRa9
import Derived.Test.YtmjpfoeaobdaeaaGreatDoorRa4
import Derived.Test.YtmjpfoeaobdaeaaGreatDoorRa6
set_option linter.unusedVariables false
set_option linter.unusedSimpArgs false
namespace Go.Proofs.YtmjpfoeaobdaeaaGreatDoor
open Go.RowKit

theorem cells2_keepT {w0 w w' : World} {p q : Addr} {x y : Value} (h : Chg Never w0 w ∧ w.cell? p = some x ∧ w.cell? q = some y) (hc : Chg Never w w') : Chg Never w0 w' ∧ w'.cell? p = some x ∧ w'.cell? q = some y :=
  ⟨h.1.trans hc, hc.cellNever h.2.1, hc.cellNever h.2.2⟩
set_option maxHeartbeats 4000000 in
set_option maxRecDepth 100000 in
theorem put_is (t : List File) (f : File) (v fv : Value) (w : World) (h : Rdv w Never v t) (hf : Rdv w Never fv f.lines) (hp : f.path.size ≤ maxLen) (m : Int) (hm : w.cell? ⟨0, 0, none⟩ = some (.int .i64 m)) (z : atFault t f.path = 0) (zl : linesFault f.lines = 0) (zi : isAt t f.path = true) :
    Calls Tryz.prog 39 #[v, .agg #[.string f.path, fv]] w fun e w' => ∃ r, e = .returned (.tuple #[r, errV (putFault t f)]) ∧ Chg Never w w' ∧ Rdv w' (Old w.heap.size) r (putR t f) := by
  obtain ⟨a, cap, rfl, h1, h2, _⟩ := rdv_slice h
  obtain ⟨fa, fcap, rfl, _, _, _⟩ := rdv_slice hf
  unfold maxLen at h2
  have hA : Chg Never w (w.alloc (.cells #[.string f.path, .slice fa f.lines.length fcap] 70)) := (Chg.refl Never w).alloc _
  have b0 : (w.alloc (.cells #[.string f.path, .slice fa f.lines.length fcap] 70)).cell? ⟨w.heap.size, 0, none⟩ = some (.string f.path) := by simp only [World.cell?]; rw [heap_alloc_new]; rfl
  have b1 : (w.alloc (.cells #[.string f.path, .slice fa f.lines.length fcap] 70)).cell? ⟨w.heap.size, 1, none⟩ = some (.slice fa f.lines.length fcap) := by simp only [World.cell?]; rw [heap_alloc_new]; rfl
  have Z := Lib.hid z
  have hz8 := (atFault_zero z).1
  have hl8 := (treeFault_zero hz8).1
  have HTL := Lib.hid (tree_lines hz8)
  have ZL := Lib.hid zl
  have hfl := linesFault_len zl
  have hpos := posOf_le t f.path
  clear hz8
  have ZI := Lib.hid zi
  have HF : Hid (putFault t f = 0) := by unfold Hid putFault; rw [if_pos z, if_pos zl, if_neg (by rw [zi]; simp)]
  have HR : Hid (putR t f = t.take (posOf t f.path) ++ f :: t.drop (posOf t f.path + 1)) := by unfold Hid putR; rw [if_pos HF.out]; unfold putAt; rw [if_pos zi]
  obtain ⟨x, hx, _⟩ := isAt_get zi
  have hlt := (List.getElem?_eq_some_iff.1 hx).1
  clear z zi zl hx
  go_enter Tryz.func39, Tryz.ntmps39
  go_wp2_with fail
  generalize w.alloc (.cells #[.string f.path, .slice fa f.lines.length fcap] 70) = wA at hA b0 b1 ⊢
  generalize hBe : w.heap.size = B at b0 b1 ⊢
  refine (tree_at_any t f.path _ _ (h.never hA) m (hA.cellNever hm)).mono ?_
  rintro e w2 ⟨rfl, hc2⟩
  have b0 := hc2.cellNever b0
  have b1 := hc2.cellNever b1
  have hw := hA.trans hc2
  clear hA hc2
  rw [show atPos t f.path = posOf t f.path from if_pos Z.out, show atIs t f.path = isAt t f.path from if_pos Z.out, Z.out, ZI.out, errV_zero]
  generalize posOf t f.path = k at hlt HR hpos ⊢
  obtain ⟨sb1, y0, y1, hrunH, hsub1⟩ := slice_gen (P := Tryz.prog) (t := 29) (by kernel_rfl) size_file h 0 k (Nat.zero_le _) (by omega)
  have hrunH := fun (wx : World) => hrunH k wx rfl rfl
  clear y0 y1
  rw [Nat.sub_zero, Nat.sub_zero] at hrunH hsub1
  rw [List.drop_zero] at hsub1
  obtain ⟨sb2, y0, hrunL, y1, hsub2⟩ := slice_gen (P := Tryz.prog) (t := 29) (by kernel_rfl) size_file h k t.length (by omega) (Nat.le_refl _)
  have hrunL := fun (wx : World) => hrunL k wx rfl rfl
  clear y0 y1
  rw [List.take_of_length_le (by rw [List.length_drop]; omega)] at hsub2
  obtain ⟨sb3, y0, hrunM, y1, hsub3⟩ := slice_gen (P := Tryz.prog) (t := 29) (by kernel_rfl) size_file h (k + 1) t.length (by omega) (Nat.le_refl _)
  have hrunM := fun (wx : World) => hrunM ((k : Int) + 1) wx (by push_cast; rfl) rfl
  clear y0 y1
  rw [List.take_of_length_le (by rw [List.length_drop]; omega)] at hsub3
  have E1 : Hid ((t.take k).length = k) := by rw [Hid, List.length_take]; omega
  have HFL : Hid ([t.take k, [f], t.drop (k + 1)].flatten = t.take k ++ f :: t.drop (k + 1)) := by unfold Hid; simp
  have hrl : (t.drop (k + 1)).length ≤ 8 := by rw [List.length_drop]; omega
  have hbl : [t.take k, [f], t.drop (k + 1)].flatten.length ≤ 1000000 := by rw [HFL.out, List.length_append, List.length_cons, E1.out]; omega
  have hda : (t.take k ++ f :: t.drop (k + 1)).length ≤ 1000000 := by rw [← HFL.out]; exact hbl
  have HDL : Hid (∀ x ∈ t.take k ++ f :: t.drop (k + 1), x.lines.length ≤ 1000000) := fun x hx => by
    rcases List.mem_append.1 hx with hx | hx
    · have := HTL.out x (List.mem_of_mem_take hx); omega
    · rcases List.mem_cons.1 hx with rfl | hx
      · omega
      · have := HTL.out x (List.mem_of_mem_drop hx); omega
  go_wp2_with fail
  refine (check_any f.lines _ _ (hf.never hw)).mono ?_
  rintro e w3 ⟨rfl, hw3⟩
  have hfr : Rdv (w2.alloc (.cells #[.string f.path, .slice fa f.lines.length fcap] 70)) Never (.slice (some ⟨w2.heap.size, 0, none⟩) 1 1) [f] := rdv_lit (cs := [.string f.path, .slice fa f.lines.length fcap]) (heap_alloc_new w2 _) rfl (by simp) ⟨⟨_, rfl, hp, hf.never (hw.alloc _)⟩, trivial⟩
  rw [ZL.out, errV_zero, ← hw3]
  clear hw3
  go_wp2_with fail
  refine wp_region_held_drew (S := fun w' => Chg Never w w' ∧ w'.cell? ⟨B, 0, none⟩ = some (.string f.path) ∧ w'.cell? ⟨B, 1, none⟩ = some (.slice fa f.lines.length fcap)) (by kernel_rfl) ⟨hw.drew, b0, b1⟩ (fun hH => ?_)
  refine' tk 0 ?_
  refine' tk 1 ?_
  refine' tk 2 ?_
  refine' tk 3 ?_
  refine' tk 5 ?_
  refine wpAnyH_ready (rs := [4]) (by kernel_rfl) (by simp) ?_
  refine AllReadyH.cons rfl (fun K hK => ?_) AllReadyH.nil
  go_simp
  refine hK.out _ _ ⟨hH.1.alloc _, ((Chg.refl Never _).alloc _).cellNever hH.2.1, ((Chg.refl Never _).alloc _).cellNever hH.2.2⟩ (fun hHn => ?_)
  clear hK K
  try simp only [Act.put, List.setIfInBounds_toArray, List.set_cons_zero, List.set_cons_succ]
  clear hH
  have hH := hHn
  clear hHn
  refine wpAnyH_ready (rs := [6]) (by kernel_rfl) (by simp) ?_
  refine AllReadyH.cons rfl (fun K hK => ?_) AllReadyH.nil
  go_simp
  refine hK.out _ _ ⟨hH.1.alloc _, ((Chg.refl Never _).alloc _).cellNever hH.2.1, ((Chg.refl Never _).alloc _).cellNever hH.2.2⟩ (fun hHn => ?_)
  clear hK K
  try simp only [Act.put, List.setIfInBounds_toArray, List.set_cons_zero, List.set_cons_succ]
  clear hH
  have hH := hHn
  clear hHn
  refine wpAnyH_ready (rs := [7]) (by kernel_rfl) (by simp) ?_
  refine AllReadyH.cons rfl (fun K hK => ?_) AllReadyH.nil
  go_simp
  (go_at_call 74; refine (concatf_any [t.take k, [f], t.drop (k + 1)] _ _ (rdv_lit (cs := [.slice sb1 k cap, .slice (some ⟨w2.heap.size, 0, none⟩) 1 1, .slice sb3 (t.length - (k + 1)) (cap - (k + 1))]) (by have e := heap_alloc_new (w2.alloc (.cells #[.string f.path, .slice fa f.lines.length fcap] 70)) (.cells #[.slice sb1 k cap, .slice (some ⟨w2.heap.size, 0, none⟩) 1 1, .slice sb3 (t.length - (k + 1)) (cap - (k + 1))] 29); rw [World.size_alloc] at e; exact e) rfl (by simp) ⟨(hsub1.never hH.1), (hfr.never ((Chg.refl Never _).alloc _).drew), (hsub3.never hH.1), trivial⟩) hbl).mono ?_; rintro e wq ⟨rq, rfl, hnq⟩; rw [HFL.out] at hnq; have hrq := hnq.own.rdv.sub (O' := Never) (fun _ _ h => h.elim); obtain ⟨qa, qn, qc, rfl⟩ := own_isSlice hnq.own; have hS2 := cells2_keepT hH hnq.chg; clear hH hnq)
  try go_wp2_with fail
  refine hK.out _ _ ?_ (fun hH => ?_)
  · assumption
  clear hK K
  try simp only [Act.put, List.setIfInBounds_toArray, List.set_cons_zero, List.set_cons_succ]
  refine wpAnyH_ready (rs := [8]) (by kernel_rfl) (by simp) ?_
  refine AllReadyH.cons rfl (fun K hK => ?_) AllReadyH.nil
  go_simp
  (go_at_call 73; refine (tree_copy_any (t.take k ++ f :: t.drop (k + 1)) _ _ hrq hda HDL.out).mono ?_; rintro e wq2 ⟨rq2, rfl, hcq2, hown2⟩; have hsz2 := hH.1.size; have hr2 := hown2.rdv.sub (O' := Old w.heap.size) (fun j _ hj => Nat.lt_of_lt_of_le hj hsz2); obtain ⟨ra, rn, rc, rfl⟩ := own_isSlice hown2; have hS3 := cells2_keepT hH hcq2; clear hH hcq2 hown2)
  try go_wp2_with fail
  refine hK.out _ _ ?_ (fun hH => ?_)
  · assumption
  clear hK K
  try simp only [Act.put, List.setIfInBounds_toArray, List.set_cons_zero, List.set_cons_succ]
  refine' tk 9 ?_
  refine' tk 10 ?_
  refine wpAnyH_done (by kernel_rfl) ?_ _
  go_wp2_with fail
  go_ret2
  exact ⟨_, by rw [HF.out]; rfl, hH.1, by rw [HR.out]; exact hr2⟩
set_option maxHeartbeats 4000000 in
set_option maxRecDepth 100000 in
theorem put_new (t : List File) (f : File) (v fv : Value) (w : World) (h : Rdv w Never v t) (hf : Rdv w Never fv f.lines) (hp : f.path.size ≤ maxLen) (m : Int) (hm : w.cell? ⟨0, 0, none⟩ = some (.int .i64 m)) (z : atFault t f.path = 0) (zl : linesFault f.lines = 0) (zi : isAt t f.path = false) :
    Calls Tryz.prog 39 #[v, .agg #[.string f.path, fv]] w fun e w' => ∃ r, e = .returned (.tuple #[r, errV (putFault t f)]) ∧ Chg Never w w' ∧ Rdv w' (Old w.heap.size) r (putR t f) := by
  obtain ⟨a, cap, rfl, h1, h2, _⟩ := rdv_slice h
  obtain ⟨fa, fcap, rfl, _, _, _⟩ := rdv_slice hf
  unfold maxLen at h2
  have hA : Chg Never w (w.alloc (.cells #[.string f.path, .slice fa f.lines.length fcap] 70)) := (Chg.refl Never w).alloc _
  have b0 : (w.alloc (.cells #[.string f.path, .slice fa f.lines.length fcap] 70)).cell? ⟨w.heap.size, 0, none⟩ = some (.string f.path) := by simp only [World.cell?]; rw [heap_alloc_new]; rfl
  have b1 : (w.alloc (.cells #[.string f.path, .slice fa f.lines.length fcap] 70)).cell? ⟨w.heap.size, 1, none⟩ = some (.slice fa f.lines.length fcap) := by simp only [World.cell?]; rw [heap_alloc_new]; rfl
  have Z := Lib.hid z
  have hz8 := (atFault_zero z).1
  have hl8 := (treeFault_zero hz8).1
  have HTL := Lib.hid (tree_lines hz8)
  have ZL := Lib.hid zl
  have hfl := linesFault_len zl
  have hpos := posOf_le t f.path
  clear hz8
  have ZI := Lib.hid zi
  by_cases h8 : t.length = 8
  · have HF : Hid (putFault t f = 3) := by unfold Hid putFault; rw [if_pos z, if_pos zl, if_pos ⟨zi, h8⟩]
    have HR : Hid (putR t f = []) := if_neg (by rw [HF.out]; decide)
    have t8 : ((t.length : Int) == 8) = true := by rw [h8]; rfl
    clear z zi zl h8
    go_enter Tryz.func39, Tryz.ntmps39
    go_wp2_with fail
    generalize w.alloc (.cells #[.string f.path, .slice fa f.lines.length fcap] 70) = wA at hA b0 b1 ⊢
    generalize hBe : w.heap.size = B at b0 b1 ⊢
    refine (tree_at_any t f.path _ _ (h.never hA) m (hA.cellNever hm)).mono ?_
    rintro e w2 ⟨rfl, hc2⟩
    have b0 := hc2.cellNever b0
    have b1 := hc2.cellNever b1
    have hw := hA.trans hc2
    clear hA hc2
    rw [show atPos t f.path = posOf t f.path from if_pos Z.out, show atIs t f.path = isAt t f.path from if_pos Z.out, Z.out, ZI.out, errV_zero]
    generalize posOf t f.path = k at HR hpos ⊢
    obtain ⟨sb1, y0, y1, hrunH, hsub1⟩ := slice_gen (P := Tryz.prog) (t := 29) (by kernel_rfl) size_file h 0 k (Nat.zero_le _) (by omega)
    have hrunH := fun (wx : World) => hrunH k wx rfl rfl
    clear y0 y1
    rw [Nat.sub_zero, Nat.sub_zero] at hrunH hsub1
    rw [List.drop_zero] at hsub1
    obtain ⟨sb2, y0, hrunL, y1, hsub2⟩ := slice_gen (P := Tryz.prog) (t := 29) (by kernel_rfl) size_file h k t.length (by omega) (Nat.le_refl _)
    have hrunL := fun (wx : World) => hrunL k wx rfl rfl
    clear y0 y1
    rw [List.take_of_length_le (by rw [List.length_drop]; omega)] at hsub2
    go_wp2_with fail
    refine (check_any f.lines _ _ (hf.never hw)).mono ?_
    rintro e w3 ⟨rfl, rfl⟩
    rw [ZL.out, errV_zero]
    go_wp2_with fail
    go_ret2
    exact ⟨_, by rw [HF.out]; rfl, hw, by rw [HR.out]; exact rdv_nil _ _⟩
  · have HF : Hid (putFault t f = 0) := by unfold Hid putFault; rw [if_pos z, if_pos zl, if_neg (fun hh => h8 hh.2)]
    have HR : Hid (putR t f = t.take (posOf t f.path) ++ f :: t.drop (posOf t f.path)) := by unfold Hid putR; rw [if_pos HF.out]; unfold putAt; rw [if_neg (by rw [zi]; decide)]
    have t8 : ((t.length : Int) == 8) = false := by simp; omega
    clear z zi zl h8
    go_enter Tryz.func39, Tryz.ntmps39
    go_wp2_with fail
    generalize w.alloc (.cells #[.string f.path, .slice fa f.lines.length fcap] 70) = wA at hA b0 b1 ⊢
    generalize hBe : w.heap.size = B at b0 b1 ⊢
    refine (tree_at_any t f.path _ _ (h.never hA) m (hA.cellNever hm)).mono ?_
    rintro e w2 ⟨rfl, hc2⟩
    have b0 := hc2.cellNever b0
    have b1 := hc2.cellNever b1
    have hw := hA.trans hc2
    clear hA hc2
    rw [show atPos t f.path = posOf t f.path from if_pos Z.out, show atIs t f.path = isAt t f.path from if_pos Z.out, Z.out, ZI.out, errV_zero]
    generalize posOf t f.path = k at HR hpos ⊢
    obtain ⟨sb1, y0, y1, hrunH, hsub1⟩ := slice_gen (P := Tryz.prog) (t := 29) (by kernel_rfl) size_file h 0 k (Nat.zero_le _) (by omega)
    have hrunH := fun (wx : World) => hrunH k wx rfl rfl
    clear y0 y1
    rw [Nat.sub_zero, Nat.sub_zero] at hrunH hsub1
    rw [List.drop_zero] at hsub1
    obtain ⟨sb2, y0, hrunL, y1, hsub2⟩ := slice_gen (P := Tryz.prog) (t := 29) (by kernel_rfl) size_file h k t.length (by omega) (Nat.le_refl _)
    have hrunL := fun (wx : World) => hrunL k wx rfl rfl
    clear y0 y1
    rw [List.take_of_length_le (by rw [List.length_drop]; omega)] at hsub2
    have E1 : Hid ((t.take k).length = k) := by rw [Hid, List.length_take]; omega
    have HFL : Hid ([t.take k, [f], t.drop k].flatten = t.take k ++ f :: t.drop k) := by unfold Hid; simp
    have hrl : (t.drop k).length ≤ 8 := by rw [List.length_drop]; omega
    have hbl : [t.take k, [f], t.drop k].flatten.length ≤ 1000000 := by rw [HFL.out, List.length_append, List.length_cons, E1.out]; omega
    have hda : (t.take k ++ f :: t.drop k).length ≤ 1000000 := by rw [← HFL.out]; exact hbl
    have HDL : Hid (∀ x ∈ t.take k ++ f :: t.drop k, x.lines.length ≤ 1000000) := fun x hx => by
      rcases List.mem_append.1 hx with hx | hx
      · have := HTL.out x (List.mem_of_mem_take hx); omega
      · rcases List.mem_cons.1 hx with rfl | hx
        · omega
        · have := HTL.out x (List.mem_of_mem_drop hx); omega
    go_wp2_with fail
    refine (check_any f.lines _ _ (hf.never hw)).mono ?_
    rintro e w3 ⟨rfl, hw3⟩
    have hfr : Rdv (w2.alloc (.cells #[.string f.path, .slice fa f.lines.length fcap] 70)) Never (.slice (some ⟨w2.heap.size, 0, none⟩) 1 1) [f] := rdv_lit (cs := [.string f.path, .slice fa f.lines.length fcap]) (heap_alloc_new w2 _) rfl (by simp) ⟨⟨_, rfl, hp, hf.never (hw.alloc _)⟩, trivial⟩
    rw [ZL.out, errV_zero, ← hw3]
    clear hw3
    go_wp2_with fail
    refine wp_region_held_drew (S := fun w' => Chg Never w w' ∧ w'.cell? ⟨B, 0, none⟩ = some (.string f.path) ∧ w'.cell? ⟨B, 1, none⟩ = some (.slice fa f.lines.length fcap)) (by kernel_rfl) ⟨hw.drew, b0, b1⟩ (fun hH => ?_)
    refine' tk 0 ?_
    refine' tk 1 ?_
    refine' tk 2 ?_
    refine' tk 3 ?_
    refine' tk 5 ?_
    refine wpAnyH_ready (rs := [4]) (by kernel_rfl) (by simp) ?_
    refine AllReadyH.cons rfl (fun K hK => ?_) AllReadyH.nil
    go_simp
    refine hK.out _ _ ⟨hH.1.alloc _, ((Chg.refl Never _).alloc _).cellNever hH.2.1, ((Chg.refl Never _).alloc _).cellNever hH.2.2⟩ (fun hHn => ?_)
    clear hK K
    try simp only [Act.put, List.setIfInBounds_toArray, List.set_cons_zero, List.set_cons_succ]
    clear hH
    have hH := hHn
    clear hHn
    refine wpAnyH_ready (rs := [6]) (by kernel_rfl) (by simp) ?_
    refine AllReadyH.cons rfl (fun K hK => ?_) AllReadyH.nil
    go_simp
    refine hK.out _ _ ⟨hH.1.alloc _, ((Chg.refl Never _).alloc _).cellNever hH.2.1, ((Chg.refl Never _).alloc _).cellNever hH.2.2⟩ (fun hHn => ?_)
    clear hK K
    try simp only [Act.put, List.setIfInBounds_toArray, List.set_cons_zero, List.set_cons_succ]
    clear hH
    have hH := hHn
    clear hHn
    refine wpAnyH_ready (rs := [7]) (by kernel_rfl) (by simp) ?_
    refine AllReadyH.cons rfl (fun K hK => ?_) AllReadyH.nil
    go_simp
    (go_at_call 74; refine (concatf_any [t.take k, [f], t.drop k] _ _ (rdv_lit (cs := [.slice sb1 k cap, .slice (some ⟨w2.heap.size, 0, none⟩) 1 1, .slice sb2 (t.length - k) (cap - k)]) (by have e := heap_alloc_new (w2.alloc (.cells #[.string f.path, .slice fa f.lines.length fcap] 70)) (.cells #[.slice sb1 k cap, .slice (some ⟨w2.heap.size, 0, none⟩) 1 1, .slice sb2 (t.length - k) (cap - k)] 29); rw [World.size_alloc] at e; exact e) rfl (by simp) ⟨(hsub1.never hH.1), (hfr.never ((Chg.refl Never _).alloc _).drew), (hsub2.never hH.1), trivial⟩) hbl).mono ?_; rintro e wq ⟨rq, rfl, hnq⟩; rw [HFL.out] at hnq; have hrq := hnq.own.rdv.sub (O' := Never) (fun _ _ h => h.elim); obtain ⟨qa, qn, qc, rfl⟩ := own_isSlice hnq.own; have hS2 := cells2_keepT hH hnq.chg; clear hH hnq)
    try go_wp2_with fail
    refine hK.out _ _ ?_ (fun hH => ?_)
    · assumption
    clear hK K
    try simp only [Act.put, List.setIfInBounds_toArray, List.set_cons_zero, List.set_cons_succ]
    refine wpAnyH_ready (rs := [8]) (by kernel_rfl) (by simp) ?_
    refine AllReadyH.cons rfl (fun K hK => ?_) AllReadyH.nil
    go_simp
    (go_at_call 73; refine (tree_copy_any (t.take k ++ f :: t.drop k) _ _ hrq hda HDL.out).mono ?_; rintro e wq2 ⟨rq2, rfl, hcq2, hown2⟩; have hsz2 := hH.1.size; have hr2 := hown2.rdv.sub (O' := Old w.heap.size) (fun j _ hj => Nat.lt_of_lt_of_le hj hsz2); obtain ⟨ra, rn, rc, rfl⟩ := own_isSlice hown2; have hS3 := cells2_keepT hH hcq2; clear hH hcq2 hown2)
    try go_wp2_with fail
    refine hK.out _ _ ?_ (fun hH => ?_)
    · assumption
    clear hK K
    try simp only [Act.put, List.setIfInBounds_toArray, List.set_cons_zero, List.set_cons_succ]
    refine' tk 9 ?_
    refine' tk 10 ?_
    refine wpAnyH_done (by kernel_rfl) ?_ _
    go_wp2_with fail
    go_ret2
    exact ⟨_, by rw [HF.out]; rfl, hH.1, by rw [HR.out]; exact hr2⟩
set_option maxHeartbeats 4000000 in
set_option maxRecDepth 100000 in
theorem tree_put_any (t : List File) (f : File) (v fv : Value) (w : World) (h : Rdv w Never v t) (hf : Rdv w Never fv f.lines) (hp : f.path.size ≤ maxLen) (m : Int) (hm : w.cell? ⟨0, 0, none⟩ = some (.int .i64 m)) :
    Calls Tryz.prog 39 #[v, .agg #[.string f.path, fv]] w fun e w' => ∃ r, e = .returned (.tuple #[r, errV (putFault t f)]) ∧ Chg Never w w' ∧ Rdv w' (Old w.heap.size) r (putR t f) := by
  by_cases z : atFault t f.path = 0
  · by_cases zl : linesFault f.lines = 0
    · cases zi : isAt t f.path with
      | true => exact put_is t f v fv w h hf hp m hm z zl zi
      | false => exact put_new t f v fv w h hf hp m hm z zl zi
    · have Z := Lib.hid z
      obtain ⟨a, cap, rfl, h1, h2, _⟩ := rdv_slice h
      obtain ⟨fa, fcap, rfl, _, _, _⟩ := rdv_slice hf
      unfold maxLen at h2
      have hA : Chg Never w (w.alloc (.cells #[.string f.path, .slice fa f.lines.length fcap] 70)) := (Chg.refl Never w).alloc _
      have b0 : (w.alloc (.cells #[.string f.path, .slice fa f.lines.length fcap] 70)).cell? ⟨w.heap.size, 0, none⟩ = some (.string f.path) := by simp only [World.cell?]; rw [heap_alloc_new]; rfl
      have b1 : (w.alloc (.cells #[.string f.path, .slice fa f.lines.length fcap] 70)).cell? ⟨w.heap.size, 1, none⟩ = some (.slice fa f.lines.length fcap) := by simp only [World.cell?]; rw [heap_alloc_new]; rfl
      have HF : Hid (putFault t f = linesFault f.lines) := by unfold Hid putFault; rw [if_pos z, if_neg zl]
      have HR : Hid (putR t f = []) := if_neg (by rw [HF.out]; exact zl)
      have ZL := Lib.hid zl
      clear z zl
      go_enter Tryz.func39, Tryz.ntmps39
      go_wp2_with fail
      generalize w.alloc (.cells #[.string f.path, .slice fa f.lines.length fcap] 70) = wA at hA b0 b1 ⊢
      generalize hBe : w.heap.size = B at b0 b1 ⊢
      refine (tree_at_any t f.path _ _ (h.never hA) m (hA.cellNever hm)).mono ?_
      rintro e w2 ⟨rfl, hc2⟩
      have b0 := hc2.cellNever b0
      have b1 := hc2.cellNever b1
      have hw := hA.trans hc2
      clear hA hc2
      rw [show atPos t f.path = posOf t f.path from if_pos Z.out, show atIs t f.path = isAt t f.path from if_pos Z.out, Z.out, errV_zero]
      go_wp2_with fail
      refine (check_any f.lines _ _ (hf.never hw)).mono ?_
      rintro e w3 ⟨rfl, rfl⟩
      rw [errV_pos ZL.out]
      go_wp2_with fail
      go_ret2
      exact ⟨_, by rw [HF.out, errV_pos ZL.out]; rfl, hw, by rw [HR.out]; exact rdv_nil _ _⟩
  · have Z := Lib.hid z
    obtain ⟨a, cap, rfl, h1, h2, _⟩ := rdv_slice h
    obtain ⟨fa, fcap, rfl, _, _, _⟩ := rdv_slice hf
    unfold maxLen at h2
    have hA : Chg Never w (w.alloc (.cells #[.string f.path, .slice fa f.lines.length fcap] 70)) := (Chg.refl Never w).alloc _
    have b0 : (w.alloc (.cells #[.string f.path, .slice fa f.lines.length fcap] 70)).cell? ⟨w.heap.size, 0, none⟩ = some (.string f.path) := by simp only [World.cell?]; rw [heap_alloc_new]; rfl
    have b1 : (w.alloc (.cells #[.string f.path, .slice fa f.lines.length fcap] 70)).cell? ⟨w.heap.size, 1, none⟩ = some (.slice fa f.lines.length fcap) := by simp only [World.cell?]; rw [heap_alloc_new]; rfl
    have HF : Hid (putFault t f = atFault t f.path) := if_neg z
    have HR : Hid (putR t f = []) := if_neg (by rw [HF.out]; exact z)
    clear z
    go_enter Tryz.func39, Tryz.ntmps39
    go_wp2_with fail
    generalize w.alloc (.cells #[.string f.path, .slice fa f.lines.length fcap] 70) = wA at hA b0 b1 ⊢
    generalize hBe : w.heap.size = B at b0 b1 ⊢
    refine (tree_at_any t f.path _ _ (h.never hA) m (hA.cellNever hm)).mono ?_
    rintro e w2 ⟨rfl, hc2⟩
    have b0 := hc2.cellNever b0
    have b1 := hc2.cellNever b1
    have hw := hA.trans hc2
    clear hA hc2
    rw [show atPos t f.path = 0 from if_neg Z.out, show atIs t f.path = false from if_neg Z.out, errV_pos Z.out]
    go_wp2_with fail
    go_ret2
    exact ⟨_, by rw [HF.out, errV_pos Z.out]; rfl, hw, by rw [HR.out]; exact rdv_nil _ _⟩
end Go.Proofs.YtmjpfoeaobdaeaaGreatDoor
namespace Go.Proofs.YtmjpfoeaobdaeaaGreatDoor

theorem placeI_is {t : List File} (h : Sorted t) {p : ByteArray} (hi : isAt t p = true) : placeI t p = posOf t p := by
  unfold placeI; rw [placeOf_sorted h, if_pos hi]
theorem placeI_not {t : List File} (h : Sorted t) {p : ByteArray} (hi : isAt t p = false) : placeI t p = -1 := by
  unfold placeI; rw [placeOf_sorted h, if_neg (by rw [hi]; decide)]
theorem placeI_neg {t : List File} (h : Sorted t) (p : ByteArray) : placeI t p < 0 ↔ isAt t p = false := by
  cases hi : isAt t p with
  | true => rw [placeI_is h hi]; simp
  | false => rw [placeI_not h hi]; simp
theorem atFault_sorted {t : List File} {p : ByteArray} (h : atFault t p = 0) : Sorted t := (treeFault_zero (atFault_zero h).1).2.2.1
theorem getFault_none {t : List File} {p : ByteArray} (h : atFault t p = 0 ∧ placeI t p < 0) : getFault t p = 4 := by
  unfold getFault; rw [if_pos h.1, if_neg (by rw [(placeI_neg (atFault_sorted h.1) p).1 h.2]; decide)]
theorem getFault_else {t : List File} {p : ByteArray} (h : ¬ (atFault t p = 0 ∧ placeI t p < 0)) : getFault t p = atFault t p := by
  unfold getFault
  by_cases e : atFault t p = 0
  · have hi : isAt t p = true := by
      cases hi : isAt t p with
      | true => rfl
      | false => exact absurd ⟨e, (placeI_neg (atFault_sorted e) p).2 hi⟩ h
    rw [if_pos e, if_pos hi, e]
  · rw [if_neg e]
def put2Fault (t : List File) (f : File) : Int := if atFault t f.path = 0 then linesFault f.lines else atFault t f.path
theorem putFault_full {t : List File} {f : File} (h : put2Fault t f = 0 ∧ placeI t f.path < 0 ∧ 8 ≤ t.length) : putFault t f = 3 := by
  unfold put2Fault at h
  by_cases e : atFault t f.path = 0
  · rw [if_pos e] at h
    have := (treeFault_zero (atFault_zero e).1).1
    unfold putFault
    rw [if_pos e, if_pos h.1, if_pos ⟨(placeI_neg (atFault_sorted e) _).1 h.2.1, by omega⟩]
  · rw [if_neg e] at h; exact absurd h.1 e
theorem putFault_else {t : List File} {f : File} (h : ¬ (put2Fault t f = 0 ∧ placeI t f.path < 0 ∧ 8 ≤ t.length)) : putFault t f = put2Fault t f := by
  unfold putFault put2Fault at *
  by_cases e : atFault t f.path = 0
  · rw [if_pos e] at h ⊢
    rw [if_pos e]
    by_cases el : linesFault f.lines = 0
    · rw [if_pos el, if_neg, el]
      rintro ⟨g1, g2⟩
      exact h ⟨el, (placeI_neg (atFault_sorted e) _).2 g1, by omega⟩
    · rw [if_neg el]
  · rw [if_neg e, if_neg e]
theorem putFault_zero {t : List File} {f : File} (h : putFault t f = 0) : atFault t f.path = 0 := by
  unfold putFault at h
  by_cases e : atFault t f.path = 0
  · exact e
  · rw [if_neg e] at h; exact absurd h e
end Go.Proofs.YtmjpfoeaobdaeaaGreatDoor
namespace Go.Proofs.YtmjpfoeaobdaeaaGreatDoor

theorem fileFault_is {f : File} (h1 : pathFault f.path = 0) (h2 : linesFault f.lines = 0) : fileFault f = 0 := by unfold fileFault; rw [if_pos h1, h2]
theorem putFault_parts {t : List File} {f : File} (h : putFault t f = 0) : Tree t ∧ fileFault f = 0 ∧ (isAt t f.path = false → t.length < 8) := by
  have ha := putFault_zero h
  unfold putFault at h
  rw [if_pos ha] at h
  by_cases e : linesFault f.lines = 0
  · rw [if_pos e] at h
    obtain ⟨z1, z2⟩ := atFault_zero ha
    have hT := tree_iff.2 z1
    refine ⟨hT, fileFault_is z2 e, fun hi => ?_⟩
    by_cases h8 : t.length = 8
    · rw [if_pos ⟨hi, h8⟩] at h; cases h
    · have := hT.1; omega
  · rw [if_neg e] at h; exact absurd h e
theorem putR_tree {t : List File} {f : File} (h : putFault t f = 0) : Tree (putR t f) := by
  obtain ⟨⟨t1, t2, t3⟩, hf, h8⟩ := putFault_parts h
  rw [putR, if_pos h]
  refine ⟨?_, ?_, putAt_sorted t3 f⟩
  · rw [putAt_len t3]
    by_cases e : isAt t f.path = true
    · rw [if_pos e]; exact t1
    · rw [if_neg e]; have := h8 (by simpa using e); omega
  · intro x hx
    rcases putAt_mem hx with rfl | hx
    · exact hf
    · exact t2 x hx
theorem getFault_look {t : List File} (h : Tree t) (p : ByteArray) : getFault t p = if pathFault p = 0 then (if (look t p).isSome = true then 0 else 4) else pathFault p := by
  unfold getFault atFault
  rw [if_pos (tree_iff.1 h), isAt_look h.2.2]
theorem getR_look {t : List File} (h : Tree t) {p : ByteArray} (hp : pathFault p = 0) : getR t p = (look t p).getD [] := by
  unfold getR
  rw [getFault_look h, if_pos hp]
  cases e : look t p with
  | none => rfl
  | some l =>
    rw [Option.isSome_some, if_pos rfl, if_pos rfl]
    unfold linesAt
    rcases posOf_look h.2.2 p with h' | h'
    · rw [h', e]
    · rw [isAt_look h.2.2, e] at h'; cases h'
theorem stays {t : List File} {f : File} (h : putFault t f = 0) :
    getFault (putR t f) f.path = 0 ∧ getR (putR t f) f.path = f.lines ∧ (treeFault (putR t f)).2 = 0 ∧ getFault (dropR (putR t f) f.path) f.path = 4 := by
  obtain ⟨hT, hf, h8⟩ := putFault_parts h
  have hX := putR_tree h
  have hp := (fileFault_zero hf).1
  have hl : look (putR t f) f.path = some f.lines := by rw [putR, if_pos h, putAt_look hT.2.2, if_pos rfl]
  have g0 : getFault (putR t f) f.path = 0 := by rw [getFault_look hX, if_pos hp, hl]; rfl
  have hi : isAt (putR t f) f.path = true := by rw [isAt_look hX.2.2, hl]; rfl
  refine ⟨g0, by rw [getR_look hX hp, hl]; rfl, tree_iff.1 hX, ?_⟩
  have hY : Tree (dropR (putR t f) f.path) := by
    rw [dropR, if_pos g0]
    refine ⟨?_, fun x hx => hX.2.1 x (dropAt_mem hx), dropAt_sorted hX.2.2 hi⟩
    have := dropAt_len hX.2.2 hi
    have := hX.1
    omega
  rw [getFault_look hY, if_pos hp, dropR, if_pos g0, dropAt_look hX.2.2 hi, if_pos rfl]; rfl
end Go.Proofs.YtmjpfoeaobdaeaaGreatDoor
namespace Go.Proofs.YtmjpfoeaobdaeaaGreatDoor

def wholeR (l : List ByteArray) (s : Int) : List Hunk := if l = [] then [] else [⟨0, 0, l.map fun x => ⟨s, x⟩⟩]
def chg (n : Int) (p : ByteArray) : Option (List ByteArray) → Option (List ByteArray) → List Change
  | none, none => []
  | none, some y => [⟨2, p, wholeR y 43⟩]
  | some x, none => [⟨3, p, wholeR x 45⟩]
  | some x, some y => if cutOf (script x y) n = [] then [] else [⟨1, p, cutOf (script x y) n⟩]
def diffL (n : Int) : List File → List File → List Change
  | [], [] => []
  | x :: a, [] => ⟨3, x.path, wholeR x.lines 45⟩ :: diffL n a []
  | [], y :: b => ⟨2, y.path, wholeR y.lines 43⟩ :: diffL n [] b
  | x :: a, y :: b =>
    if less x.path y.path = true then ⟨3, x.path, wholeR x.lines 45⟩ :: diffL n a (y :: b)
    else if less y.path x.path = true then ⟨2, y.path, wholeR y.lines 43⟩ :: diffL n (x :: a) b
    else chg n x.path (some x.lines) (some y.lines) ++ diffL n a b
termination_by a b => a.length + b.length
def mergeT : List File → List File → List File
  | [], [] => []
  | x :: a, [] => x :: mergeT a []
  | [], y :: b => y :: mergeT [] b
  | x :: a, y :: b =>
    if less x.path y.path = true then x :: mergeT a (y :: b)
    else if less y.path x.path = true then y :: mergeT (x :: a) b
    else y :: mergeT a b
termination_by a b => a.length + b.length
def allOf (a b : List File) : List File := b.foldl putAt a
def refDiff (a b : List File) (n : Int) : List Change := (allOf a b).flatMap fun f => chg n f.path (look a f.path) (look b f.path)

theorem flat_congr {α β : Type} {g h : α → List β} : ∀ {l : List α}, (∀ x ∈ l, g x = h x) → l.flatMap g = l.flatMap h
  | [], _ => rfl
  | x :: r, e => by rw [List.flatMap_cons, List.flatMap_cons, e x (List.mem_cons_self ..), flat_congr fun y hy => e y (List.mem_cons_of_mem _ hy)]
theorem less_same {p q : ByteArray} (h : ¬ less p q = true) (g : ¬ less q p = true) : p = q := by
  rcases less_tri p q with e | e | e
  · exact absurd e h
  · exact e
  · exact absurd e g
def Behind (p : ByteArray) (a : List File) : Prop := ∀ x ∈ a, less p x.path = true
theorem Behind.trans {p q : ByteArray} {a : List File} (h : Behind q a) (g : less p q = true) : Behind p a := fun x hx => less_trans g (h x hx)
theorem Behind.cons {p : ByteArray} {x : File} {a : List File} (h : Behind p a) (g : less p x.path = true) : Behind p (x :: a) := fun y hy => by
  rcases List.mem_cons.1 hy with rfl | hy
  · exact g
  · exact h y hy
theorem Behind.none {p : ByteArray} {a : List File} (h : Behind p a) : look a p = none := look_none fun x hx => (less_ne (h x hx)).symm
theorem sorted_cons {x : File} {a : List File} (h : Sorted (x :: a)) : Behind x.path a ∧ Sorted a := List.pairwise_cons.1 h
theorem merge_behind (p : ByteArray) : ∀ (a b : List File), Behind p a → Behind p b → Behind p (mergeT a b)
  | [], [], _, _ => by rw [mergeT]; exact fun x hx => by cases hx
  | x :: a, [], h, g => by
    rw [mergeT]
    exact Behind.cons (merge_behind p a [] (fun y hy => h y (List.mem_cons_of_mem _ hy)) g) (h x (List.mem_cons_self ..))
  | [], y :: b, h, g => by
    rw [mergeT]
    exact Behind.cons (merge_behind p [] b h (fun z hz => g z (List.mem_cons_of_mem _ hz))) (g y (List.mem_cons_self ..))
  | x :: a, y :: b, h, g => by
    have h1 : Behind p a := fun y hy => h y (List.mem_cons_of_mem _ hy)
    have g1 : Behind p b := fun y hy => g y (List.mem_cons_of_mem _ hy)
    rw [mergeT]
    split
    · exact Behind.cons (merge_behind p a (y :: b) h1 g) (h x (List.mem_cons_self ..))
    · split
      · exact Behind.cons (merge_behind p (x :: a) b h g1) (g y (List.mem_cons_self ..))
      · exact Behind.cons (merge_behind p a b h1 g1) (g y (List.mem_cons_self ..))
termination_by a b => a.length + b.length
theorem merge_sorted : ∀ (a b : List File), Sorted a → Sorted b → Sorted (mergeT a b)
  | [], [], _, _ => by rw [mergeT]; exact List.Pairwise.nil
  | x :: a, [], h, g => by
    rw [mergeT]
    exact List.Pairwise.cons (merge_behind x.path a [] (sorted_cons h).1 (fun y hy => by cases hy)) (merge_sorted a [] (sorted_cons h).2 g)
  | [], y :: b, h, g => by
    rw [mergeT]
    exact List.Pairwise.cons (merge_behind y.path [] b (fun y hy => by cases hy) (sorted_cons g).1) (merge_sorted [] b h (sorted_cons g).2)
  | x :: a, y :: b, h, g => by
    obtain ⟨h1, h2⟩ := sorted_cons h
    obtain ⟨g1, g2⟩ := sorted_cons g
    rw [mergeT]
    split
    · rename_i l1
      exact List.Pairwise.cons (merge_behind x.path a (y :: b) h1 ((g1.trans l1).cons l1)) (merge_sorted a (y :: b) h2 g)
    · rename_i l1
      split
      · rename_i l2
        exact List.Pairwise.cons (merge_behind y.path (x :: a) b ((h1.trans l2).cons l2) g1) (merge_sorted (x :: a) b h g2)
      · rename_i l2
        have e := less_same l1 l2
        exact List.Pairwise.cons (merge_behind y.path a b (by rw [← e]; exact h1) g1) (merge_sorted a b h2 g2)
termination_by a b => a.length + b.length
theorem merge_look (p : ByteArray) : ∀ (a b : List File), Sorted a → Sorted b → look (mergeT a b) p = (look b p).or (look a p)
  | [], [], _, _ => by rw [mergeT]; rfl
  | x :: a, [], h, g => by
    rw [mergeT, look_cons, look_cons, merge_look p a [] (sorted_cons h).2 g]
    rw [look_nil]; rfl
  | [], y :: b, h, g => by
    rw [mergeT, look_cons, look_cons, merge_look p [] b h (sorted_cons g).2]
    by_cases e : y.path = p
    · rw [if_pos e, if_pos e]; rfl
    · rw [if_neg e, if_neg e]
  | x :: a, y :: b, h, g => by
    obtain ⟨h1, h2⟩ := sorted_cons h
    obtain ⟨g1, g2⟩ := sorted_cons g
    rw [mergeT]
    split
    · rename_i l1
      rw [look_cons, merge_look p a (y :: b) h2 g, look_cons x a]
      by_cases e : x.path = p
      · rw [if_pos e, if_pos e, Behind.none (p := p) (by rw [← e]; exact (g1.trans l1).cons l1)]; rfl
      · rw [if_neg e, if_neg e]
    · rename_i l1
      split
      · rename_i l2
        rw [look_cons, merge_look p (x :: a) b h g2, look_cons y b]
        by_cases e : y.path = p
        · rw [if_pos e, if_pos e]; rfl
        · rw [if_neg e, if_neg e]
      · rename_i l2
        have e := less_same l1 l2
        rw [look_cons, merge_look p a b h2 g2, look_cons y b, look_cons x a]
        by_cases q : y.path = p
        · rw [if_pos q, if_pos q]; rfl
        · rw [if_neg q, if_neg q, if_neg (by rw [e]; exact q)]
termination_by a b => a.length + b.length
theorem all_sorted : ∀ (b a : List File), Sorted a → Sorted (allOf a b)
  | [], _, h => h
  | x :: r, a, h => all_sorted r (putAt a x) (putAt_sorted h x)
theorem all_look (p : ByteArray) : ∀ (b a : List File), Sorted a → Sorted b → look (allOf a b) p = (look b p).or (look a p)
  | [], a, _, _ => rfl
  | x :: r, a, h, g => by
    obtain ⟨g1, g2⟩ := sorted_cons g
    have := all_look p r (putAt a x) (putAt_sorted h x) g2
    rw [show allOf a (x :: r) = allOf (putAt a x) r from rfl, this, putAt_look h, look_cons]
    by_cases e : x.path = p
    · rw [if_pos e, if_pos e, Behind.none (p := p) (by rw [← e]; exact g1)]; rfl
    · rw [if_neg e, if_neg e]
theorem all_merge {a b : List File} (h : Sorted a) (g : Sorted b) : allOf a b = mergeT a b :=
  sorted_ext (all_sorted b a h) (merge_sorted a b h g) fun p => by rw [all_look p b a h g, merge_look p a b h g]
theorem merge_diff (n : Int) : ∀ (a b : List File), Sorted a → Sorted b → ((mergeT a b).flatMap fun f => chg n f.path (look a f.path) (look b f.path)) = diffL n a b
  | [], [], _, _ => by rw [mergeT, diffL]; rfl
  | x :: a, [], h, g => by
    obtain ⟨h1, h2⟩ := sorted_cons h
    rw [mergeT, diffL, List.flatMap_cons, ← merge_diff n a [] h2 g, look_cons, if_pos rfl, look_nil]
    refine congrArg (fun l => _ :: l) (flat_congr fun f hf => ?_)
    rw [look_cons, if_neg (less_ne (merge_behind x.path a [] h1 (fun y hy => by cases hy) f hf))]
  | [], y :: b, h, g => by
    obtain ⟨g1, g2⟩ := sorted_cons g
    rw [mergeT, diffL, List.flatMap_cons, ← merge_diff n [] b h g2, look_cons, if_pos rfl, look_nil]
    refine congrArg (fun l => _ :: l) (flat_congr fun f hf => ?_)
    rw [look_cons, if_neg (less_ne (merge_behind y.path [] b (fun y hy => by cases hy) g1 f hf))]
  | x :: a, y :: b, h, g => by
    obtain ⟨h1, h2⟩ := sorted_cons h
    obtain ⟨g1, g2⟩ := sorted_cons g
    rw [mergeT, diffL]
    by_cases l1 : less x.path y.path = true
    · have q := (g1.trans l1).cons l1
      rw [if_pos l1, if_pos l1, List.flatMap_cons, ← merge_diff n a (y :: b) h2 g, q.none, look_cons, if_pos rfl]
      refine congrArg (fun l => _ :: l) (flat_congr fun f hf => ?_)
      rw [look_cons x a, if_neg (less_ne (merge_behind x.path a (y :: b) h1 q f hf))]
    · rw [if_neg l1, if_neg l1]
      by_cases l2 : less y.path x.path = true
      · have q := (h1.trans l2).cons l2
        rw [if_pos l2, if_pos l2, List.flatMap_cons, ← merge_diff n (x :: a) b h g2, q.none, look_cons, if_pos rfl]
        refine congrArg (fun l => _ :: l) (flat_congr fun f hf => ?_)
        rw [look_cons y b, if_neg (less_ne (merge_behind y.path (x :: a) b q g1 f hf))]
      · have e := less_same l1 l2
        rw [if_neg l2, if_neg l2, List.flatMap_cons, ← merge_diff n a b h2 g2, look_cons, if_pos e, look_cons, if_pos rfl, e]
        refine congrArg (fun l => _ ++ l) (flat_congr fun f hf => ?_)
        have q := less_ne (merge_behind y.path a b (by rw [← e]; exact h1) g1 f hf)
        rw [look_cons y b, look_cons x a, if_neg (by rw [e]; exact q), if_neg q]
termination_by a b => a.length + b.length
theorem diff_same {a b : List File} (n : Int) (h : Sorted a) (g : Sorted b) : refDiff a b n = diffL n a b := by
  unfold refDiff
  rw [all_merge h g, merge_diff n a b h g]
end Go.Proofs.YtmjpfoeaobdaeaaGreatDoor
namespace Go.Proofs.YtmjpfoeaobdaeaaGreatDoor

def wholeB (l : List Hunk) (s : Int) : Bool :=
  match l with
  | [] => true
  | [h] => decide (h.old = 0) && decide (h.new = 0) && h.marks.all fun m => decide (m.sign = s)
  | _ => false
def shapeB (c : Change) : Bool := if c.what = 2 then wholeB c.hunks 43 else if c.what = 3 then wholeB c.hunks 45 else !c.hunks.isEmpty
def changeFault (c : Change) : Int :=
  if c.what < 1 ∨ 3 < c.what then 1 else if pathFault c.path ≠ 0 then pathFault c.path else if (hunksFault c.hunks).2 ≠ 0 then (hunksFault c.hunks).2 else if shapeB c = true then 0 else 2
def patchGo : Nat → Option ByteArray → List Change → Nat × Int
  | _, _, [] => (0, 0)
  | i, prev, c :: r => if changeFault c ≠ 0 then (i, changeFault c) else if prev.any (fun p => leqB c.path p) = true then (i, 2) else patchGo (i + 1) (some c.path) r
def patchFault (p : List Change) : Nat × Int := if 16 < p.length then (0, 3) else patchGo 0 none p
def SortedC (p : List Change) : Prop := p.Pairwise fun c d => less c.path d.path = true
def Patch (p : List Change) : Prop := p.length ≤ 16 ∧ (∀ c ∈ p, changeFault c = 0) ∧ SortedC p

theorem patchGo_zero : ∀ (t : List Change) (i : Nat) (prev : Option ByteArray), (patchGo i prev t).2 = 0 → (∀ f ∈ t, changeFault f = 0) ∧ SortedC t ∧ (∀ p f, prev = some p → f ∈ t → less p f.path = true) ∧ patchGo i prev t = (0, 0)
  | [], _, _, _ => ⟨by simp, List.Pairwise.nil, by simp, rfl⟩
  | f :: r, i, prev, h => by
    rw [patchGo] at h ⊢
    by_cases h1 : changeFault f ≠ 0
    · rw [if_pos h1] at h; exact absurd h h1
    · rw [if_neg h1] at h ⊢
      by_cases h2 : prev.any (fun p => leqB f.path p) = true
      · rw [if_pos h2] at h; cases h
      · rw [if_neg h2] at h ⊢
        obtain ⟨i1, i2, i3, i4⟩ := patchGo_zero r (i + 1) (some f.path) h
        refine ⟨?_, ?_, ?_, i4⟩
        · intro x hx
          rcases List.mem_cons.1 hx with rfl | hx
          · simpa using h1
          · exact i1 x hx
        · exact List.Pairwise.cons (fun g hg => i3 f.path g rfl hg) i2
        · rintro p x rfl hx
          have hp : less p f.path = true := by
            simp only [Option.any_some] at h2
            rcases less_tri p f.path with g | g | g
            · exact g
            · exact absurd (leqB_true.2 (by rw [g]; exact less_irrefl _)) h2
            · exact absurd (leqB_true.2 (less_asymm g)) h2
          rcases List.mem_cons.1 hx with rfl | hx
          · exact hp
          · exact less_trans hp (i3 f.path x rfl hx)
theorem patchGo_ok : ∀ (t : List Change) (i : Nat) (prev : Option ByteArray), (∀ f ∈ t, changeFault f = 0) → SortedC t → (∀ p f, prev = some p → f ∈ t → less p f.path = true) → patchGo i prev t = (0, 0)
  | [], _, _, _, _, _ => rfl
  | f :: r, i, prev, h1, h2, h3 => by
    obtain ⟨g1, g2⟩ := List.pairwise_cons.1 h2
    have hp : ¬ prev.any (fun p => leqB f.path p) = true := by
      cases prev with
      | none => simp
      | some p =>
        simp only [Option.any_some]
        intro e
        have := leqB_true.1 e
        rw [h3 p f rfl (List.mem_cons_self ..)] at this
        cases this
    rw [patchGo, if_neg (by rw [h1 f (List.mem_cons_self ..)]; simp), if_neg hp]
    exact patchGo_ok r (i + 1) (some f.path) (fun x hx => h1 x (List.mem_cons_of_mem _ hx)) g2 (fun p x hp hx => by cases hp; exact g1 x hx)
theorem patch_ok {p : List Change} (h : Patch p) : patchFault p = (0, 0) := by
  unfold patchFault
  rw [if_neg (by have := h.1; omega)]
  exact patchGo_ok p 0 none h.2.1 h.2.2 (by simp)
theorem patch_of {p : List Change} (h : (patchFault p).2 = 0) : Patch p := by
  unfold patchFault at h
  by_cases h1 : 16 < p.length
  · rw [if_pos h1] at h; cases h
  · rw [if_neg h1] at h
    obtain ⟨i1, i2, _, _⟩ := patchGo_zero p 0 none h
    exact ⟨by omega, i1, i2⟩
def stepOf (x : Option (List ByteArray)) (c : Change) : Option (List ByteArray) × Int :=
  if c.what = 2 ∧ x.isSome = true then (none, 6)
  else if c.what ≠ 2 ∧ x.isSome = false then (none, 4)
  else if (strict (x.getD []) c.hunks).2.2 ≠ 0 then (none, (strict (x.getD []) c.hunks).2.2)
  else if c.what = 3 then (if (strict (x.getD []) c.hunks).1 = [] then (none, 0) else (none, 6))
  else (some (strict (x.getD []) c.hunks).1, 0)
def setAt (t : List File) (p : ByteArray) (y : Option (List ByteArray)) : List File :=
  match y with
  | some l => putAt t ⟨p, l⟩
  | none => dropAt t (posOf t p)
def applyGo : Nat → List File → List Change → List File × Nat × Int
  | _, t, [] => (t, 0, 0)
  | i, t, c :: r => if (stepOf (look t c.path) c).2 ≠ 0 then ([], i, (stepOf (look t c.path) c).2) else applyGo (i + 1) (setAt t c.path (stepOf (look t c.path) c).1) r
def applyR (t : List File) (p : List Change) : List File × Nat × Int :=
  if (treeFault t).2 ≠ 0 then ([], 0, (treeFault t).2)
  else if (patchFault p).2 ≠ 0 then ([], (patchFault p).1, (patchFault p).2)
  else if (applyGo 0 t p).2.2 ≠ 0 then applyGo 0 t p
  else if 8 < (applyGo 0 t p).1.length then ([], 0, 3)
  else ((applyGo 0 t p).1, 0, 0)

theorem step_none {x : Option (List ByteArray)} {c : Change} (h : stepOf x c = (none, 0)) : x.isSome = true := by
  unfold stepOf at h
  by_cases h1 : c.what = 2 ∧ x.isSome = true
  · exact h1.2
  · rw [if_neg h1] at h
    by_cases h2 : c.what ≠ 2 ∧ x.isSome = false
    · rw [if_pos h2] at h; cases h
    · rw [if_neg h2] at h
      by_cases h3 : (strict (x.getD []) c.hunks).2.2 ≠ 0
      · rw [if_pos h3] at h; exact absurd (Prod.mk.inj h).2 h3
      · rw [if_neg h3] at h
        by_cases h4 : c.what = 3
        · cases hx : x.isSome with
          | true => rfl
          | false => exact absurd ⟨by omega, hx⟩ h2
        · rw [if_neg h4] at h; cases h
theorem setAt_look {t : List File} (hs : Sorted t) {p : ByteArray} {y : Option (List ByteArray)} (hy : y = none → isAt t p = true) (q : ByteArray) : look (setAt t p y) q = if p = q then y else look t q := by
  cases y with
  | some l => exact putAt_look hs ⟨p, l⟩ q
  | none => exact dropAt_look hs (hy rfl) q
theorem setAt_sorted {t : List File} (hs : Sorted t) {p : ByteArray} {y : Option (List ByteArray)} (hy : y = none → isAt t p = true) : Sorted (setAt t p y) := by
  cases y with
  | some l => exact putAt_sorted hs ⟨p, l⟩
  | none => exact dropAt_sorted hs (hy rfl)
theorem step_at {t : List File} (hs : Sorted t) {c : Change} {y : Option (List ByteArray)} (h : stepOf (look t c.path) c = (y, 0)) : y = none → isAt t c.path = true := by
  rintro rfl
  rw [isAt_look hs]
  exact step_none h

def Leads (t : List File) (p : List Change) (b : List File) : Prop :=
  (∀ c ∈ p, stepOf (look t c.path) c = (look b c.path, 0)) ∧ ∀ q, (∀ c ∈ p, c.path ≠ q) → look b q = look t q
theorem apply_of : ∀ (p : List Change) (t b : List File) (i : Nat), Sorted t → Sorted b → SortedC p → Leads t p b → applyGo i t p = (b, 0, 0)
  | [], t, b, _, ht, hb, _, h => by
    rw [applyGo, sorted_ext ht hb fun q => (h.2 q (by simp)).symm]
  | c :: r, t, b, i, ht, hb, hp, h => by
    obtain ⟨p1, p2⟩ := List.pairwise_cons.1 hp
    have hc := h.1 c (List.mem_cons_self ..)
    have hy := step_at ht hc
    rw [applyGo, hc, if_neg (by simp)]
    refine apply_of r _ b (i + 1) (setAt_sorted ht hy) hb p2 ⟨fun d hd => ?_, fun q hq => ?_⟩
    · rw [setAt_look ht hy, if_neg (less_ne (p1 d hd))]
      exact h.1 d (List.mem_cons_of_mem _ hd)
    · rw [setAt_look ht hy]
      by_cases e : c.path = q
      · rw [if_pos e, e]
      · rw [if_neg e]
        refine h.2 q fun d hd => ?_
        rcases List.mem_cons.1 hd with rfl | hd
        · exact e
        · exact hq d hd
theorem apply_inv : ∀ (p : List Change) (t b : List File) (k i : Nat), Sorted t → SortedC p → applyGo i t p = (b, k, 0) → k = 0 ∧ Sorted b ∧ Leads t p b
  | [], t, b, k, _, ht, _, h => by
    rw [applyGo] at h
    cases h
    exact ⟨rfl, ht, by simp, fun _ _ => rfl⟩
  | c :: r, t, b, k, i, ht, hp, h => by
    obtain ⟨p1, p2⟩ := List.pairwise_cons.1 hp
    rw [applyGo] at h
    by_cases z : (stepOf (look t c.path) c).2 ≠ 0
    · rw [if_pos z] at h
      simp only [Prod.mk.injEq] at h
      exact absurd h.2.2 z
    · rw [if_neg z] at h
      have hc : stepOf (look t c.path) c = ((stepOf (look t c.path) c).1, 0) := by
        rw [Prod.ext_iff]; exact ⟨rfl, by simpa using z⟩
      generalize (stepOf (look t c.path) c).1 = y at h hc
      have hy := step_at ht hc
      obtain ⟨k0, sb, l1, l2⟩ := apply_inv r _ b k (i + 1) (setAt_sorted ht hy) p2 h
      have hcb : look b c.path = y := by
        rw [l2 c.path fun d hd => (less_ne (p1 d hd)).symm, setAt_look ht hy, if_pos rfl]
      refine ⟨k0, sb, fun d hd => ?_, fun q hq => ?_⟩
      · rcases List.mem_cons.1 hd with rfl | hd
        · rw [hc, hcb]
        · have := l1 d hd
          rwa [setAt_look ht hy, if_neg (less_ne (p1 d hd))] at this
      · rw [l2 q fun d hd => hq d (List.mem_cons_of_mem _ hd), setAt_look ht hy, if_neg (hq c (List.mem_cons_self ..))]
theorem applyR_of {t b : List File} {p : List Change} (ht : Tree t) (hp : Patch p) (hb : Sorted b) (h8 : b.length ≤ 8) (h : Leads t p b) : applyR t p = (b, 0, 0) := by
  have e := apply_of p t b 0 ht.2.2 hb hp.2.2 h
  unfold applyR
  rw [if_neg (by rw [tree_iff.1 ht]; simp), if_neg (by rw [patch_ok hp]; simp), e, if_neg (by simp), if_neg (by simp only; omega)]
theorem applyR_inv {t b : List File} {p : List Change} {k : Nat} (h : applyR t p = (b, k, 0)) : k = 0 ∧ Tree t ∧ Patch p ∧ Sorted b ∧ b.length ≤ 8 ∧ Leads t p b := by
  unfold applyR at h
  by_cases h1 : (treeFault t).2 ≠ 0
  · rw [if_pos h1] at h; simp only [Prod.mk.injEq] at h; exact absurd h.2.2 h1
  · rw [if_neg h1] at h
    by_cases h2 : (patchFault p).2 ≠ 0
    · rw [if_pos h2] at h; simp only [Prod.mk.injEq] at h; exact absurd h.2.2 h2
    · rw [if_neg h2] at h
      have ht : Tree t := tree_iff.2 (by simpa using h1)
      have hp : Patch p := patch_of (by simpa using h2)
      by_cases h3 : (applyGo 0 t p).2.2 ≠ 0
      · rw [if_pos h3] at h; rw [h] at h3; exact absurd rfl h3
      · rw [if_neg h3] at h
        by_cases h4 : 8 < (applyGo 0 t p).1.length
        · rw [if_pos h4] at h; cases h
        · rw [if_neg h4] at h
          have e : applyGo 0 t p = ((applyGo 0 t p).1, (applyGo 0 t p).2.1, 0) := by
            rw [Prod.ext_iff, Prod.ext_iff]; exact ⟨rfl, rfl, by simpa using h3⟩
          obtain ⟨_, q2, q3⟩ := apply_inv p t _ _ 0 ht.2.2 hp.2.2 e
          cases h
          exact ⟨rfl, ht, hp, q2, by omega, q3⟩

def turnW (k : Int) : Int := if k = 2 then 3 else if k = 3 then 2 else k
def turnC (c : Change) : Change := ⟨turnW c.what, c.path, turnHunks c.hunks⟩
def turnP (p : List Change) : List Change := p.map turnC
theorem changeFault_zero {c : Change} (h : changeFault c = 0) : 1 ≤ c.what ∧ c.what ≤ 3 ∧ pathFault c.path = 0 ∧ hunksFault c.hunks = (0, 0) ∧ shapeB c = true := by
  unfold changeFault at h
  by_cases h1 : c.what < 1 ∨ 3 < c.what
  · rw [if_pos h1] at h; cases h
  · rw [if_neg h1] at h
    by_cases h2 : pathFault c.path ≠ 0
    · rw [if_pos h2] at h; exact absurd h h2
    · rw [if_neg h2] at h
      by_cases h3 : (hunksFault c.hunks).2 ≠ 0
      · rw [if_pos h3] at h; exact absurd h h3
      · rw [if_neg h3] at h
        by_cases h4 : shapeB c = true
        · exact ⟨by omega, by omega, by simpa using h2, hunksFault_first (by simpa using h3), h4⟩
        · rw [if_neg h4] at h; cases h
theorem changeFault_of {c : Change} (h1 : 1 ≤ c.what) (h2 : c.what ≤ 3) (h3 : pathFault c.path = 0) (h4 : hunksFault c.hunks = (0, 0)) (h5 : shapeB c = true) : changeFault c = 0 := by
  unfold changeFault
  rw [if_neg (by omega), if_neg (by simp [h3]), if_neg (by simp [h4]), if_pos h5]
theorem wholeB_turn {l : List Hunk} {s : Int} (hs : s = 43 ∨ s = 45) (h : wholeB l s = true) : wholeB (turnHunks l) (88 - s) = true := by
  match l with
  | [] => rfl
  | [q] =>
    unfold wholeB at h
    simp only [Bool.and_eq_true, decide_eq_true_eq, List.all_eq_true] at h
    obtain ⟨⟨h1, h2⟩, h3⟩ := h
    show (decide (q.new = 0) && decide (q.old = 0) && (q.marks.map turnMark).all fun m => decide (m.sign = 88 - s)) = true
    rw [Bool.and_eq_true, Bool.and_eq_true]
    refine ⟨⟨decide_eq_true h2, decide_eq_true h1⟩, List.all_eq_true.2 fun m hm => ?_⟩
    obtain ⟨x, hx, rfl⟩ := List.mem_map.1 hm
    have := h3 x hx
    refine decide_eq_true ?_
    unfold turnMark
    rcases hs with rfl | rfl
    · simp [this]
    · simp [this]
  | _ :: _ :: _ => cases h
theorem turnC_ok {c : Change} (h : changeFault c = 0) : changeFault (turnC c) = 0 := by
  obtain ⟨h1, h2, h3, h4, h5⟩ := changeFault_zero h
  have hw : c.what = 1 ∨ c.what = 2 ∨ c.what = 3 := by omega
  refine changeFault_of ?_ ?_ h3 (turn_ok h4) ?_
  · show 1 ≤ turnW c.what
    rcases hw with e | e | e <;> rw [e] <;> decide
  · show turnW c.what ≤ 3
    rcases hw with e | e | e <;> rw [e] <;> decide
  · unfold shapeB at h5 ⊢
    show (if turnW c.what = 2 then wholeB (turnHunks c.hunks) 43 else if turnW c.what = 3 then wholeB (turnHunks c.hunks) 45 else !(turnHunks c.hunks).isEmpty) = true
    rcases hw with e | e | e
    · rw [e, if_neg (by decide), if_neg (by decide)] at h5
      rw [e, if_neg (by decide), if_neg (by decide)]
      unfold turnHunks
      cases hh : c.hunks with
      | nil => rw [hh] at h5; cases h5
      | cons a b => rfl
    · rw [e, if_pos rfl] at h5
      rw [e, if_neg (by decide), if_pos (by decide)]
      exact wholeB_turn (.inl rfl) h5
    · rw [e, if_neg (by decide), if_pos rfl] at h5
      rw [e, if_pos (by decide)]
      exact wholeB_turn (.inr rfl) h5
theorem patch_turn {p : List Change} (h : Patch p) : Patch (turnP p) := by
  refine ⟨by unfold turnP; rw [List.length_map]; exact h.1, fun c hc => ?_, ?_⟩
  · obtain ⟨x, hx, rfl⟩ := List.mem_map.1 hc
    exact turnC_ok (h.2.1 x hx)
  · unfold SortedC turnP
    rw [List.pairwise_map]
    exact h.2.2
theorem step_undo {x y : Option (List ByteArray)} {c : Change} (hc : changeFault c = 0) (h : stepOf x c = (y, 0)) : stepOf y (turnC c) = (x, 0) := by
  obtain ⟨c1, c2, _, _, _⟩ := changeFault_zero hc
  have hw : c.what = 1 ∨ c.what = 2 ∨ c.what = 3 := by omega
  unfold stepOf at h
  by_cases h1 : c.what = 2 ∧ x.isSome = true
  · rw [if_pos h1] at h; cases h
  · rw [if_neg h1] at h
    by_cases h2 : c.what ≠ 2 ∧ x.isSome = false
    · rw [if_pos h2] at h; cases h
    · rw [if_neg h2] at h
      by_cases h3 : (strict (x.getD []) c.hunks).2.2 ≠ 0
      · rw [if_pos h3] at h; simp only [Prod.mk.injEq] at h; exact absurd h.2 h3
      · rw [if_neg h3] at h
        have e : strict (x.getD []) c.hunks = ((strict (x.getD []) c.hunks).1, (strict (x.getD []) c.hunks).2.1, 0) := by
          rw [Prod.ext_iff, Prod.ext_iff]; exact ⟨rfl, rfl, by simpa using h3⟩
        have u := (strict_undo e).1
        rcases hw with w | w | w
        · rw [if_neg (by omega)] at h
          have hy := (Prod.mk.inj h).1
          cases x with
          | none => exact absurd ⟨by omega, rfl⟩ h2
          | some l =>
            subst hy
            unfold stepOf turnC turnW
            simp only [w, Option.getD_some] at u ⊢
            simp [u]
        · rw [if_neg (by omega)] at h
          have hy := (Prod.mk.inj h).1
          cases x with
          | some l => exact absurd ⟨w, rfl⟩ h1
          | none =>
            subst hy
            unfold stepOf turnC turnW
            simp only [w, Option.getD_some, Option.getD_none] at u ⊢
            simp [u]
        · rw [if_pos w] at h
          cases x with
          | none => exact absurd ⟨by omega, rfl⟩ h2
          | some l =>
            by_cases q : (strict ((some l).getD []) c.hunks).1 = []
            · rw [if_pos q] at h
              have hy := (Prod.mk.inj h).1
              subst hy
              rw [q] at u
              unfold stepOf turnC turnW
              simp only [w, Option.getD_some, Option.getD_none] at u ⊢
              simp [u]
            · rw [if_neg q] at h; cases h
theorem leads_turn {t b : List File} {p : List Change} (hp : ∀ c ∈ p, changeFault c = 0) (h : Leads t p b) : Leads b (turnP p) t := by
  refine ⟨fun c hc => ?_, fun q hq => ?_⟩
  · obtain ⟨x, hx, rfl⟩ := List.mem_map.1 hc
    exact step_undo (hp x hx) (h.1 x hx)
  · exact (h.2 q fun c hc => hq (turnC c) (List.mem_map_of_mem hc)).symm
theorem step_lines {x y : Option (List ByteArray)} {c : Change} (h : stepOf x c = (y, 0)) : ∀ l, y = some l → linesFault l = 0 := by
  rintro l rfl
  unfold stepOf at h
  by_cases h1 : c.what = 2 ∧ x.isSome = true
  · rw [if_pos h1] at h; cases h
  · rw [if_neg h1] at h
    by_cases h2 : c.what ≠ 2 ∧ x.isSome = false
    · rw [if_pos h2] at h; cases h
    · rw [if_neg h2] at h
      by_cases h3 : (strict (x.getD []) c.hunks).2.2 ≠ 0
      · rw [if_pos h3] at h; cases h
      · rw [if_neg h3] at h
        have e : strict (x.getD []) c.hunks = ((strict (x.getD []) c.hunks).1, (strict (x.getD []) c.hunks).2.1, 0) := by
          rw [Prod.ext_iff, Prod.ext_iff]; exact ⟨rfl, rfl, by simpa using h3⟩
        by_cases h4 : c.what = 3
        · rw [if_pos h4] at h
          split at h <;> cases h
        · rw [if_neg h4] at h
          have := Option.some.inj (Prod.mk.inj h).1
          rw [← this]
          exact (strict_undo e).2
theorem leads_tree {t b : List File} {p : List Change} (ht : Tree t) (hp : Patch p) (hb : Sorted b) (h8 : b.length ≤ 8) (h : Leads t p b) : Tree b := by
  refine ⟨h8, fun f hf => ?_, hb⟩
  have hl := look_mem hb hf
  by_cases e : ∃ c ∈ p, c.path = f.path
  · obtain ⟨c, hc, e⟩ := e
    have hs := h.1 c hc
    rw [e, hl] at hs
    unfold fileFault
    rw [if_pos (by rw [← e]; exact (changeFault_zero (hp.2.1 c hc)).2.2.1)]
    exact step_lines hs _ rfl
  · have := h.2 f.path fun c hc g => e ⟨c, hc, g⟩
    rw [hl] at this
    obtain ⟨x, hx, e1, e2⟩ := look_some this.symm
    have q : x = f := by cases x; cases f; simp only at e1 e2; rw [e1, e2]
    exact q ▸ ht.2.1 x hx
theorem apply_back {t b : List File} {p : List Change} {k : Nat} (h : applyR t p = (b, k, 0)) : applyR b (turnP p) = (t, 0, 0) := by
  obtain ⟨_, ht, hp, hb, h8, hl⟩ := applyR_inv h
  exact applyR_of (leads_tree ht hp hb h8 hl) (patch_turn hp) ht.2.2 ht.1 (leads_turn hp.2.1 hl)
end Go.Proofs.YtmjpfoeaobdaeaaGreatDoor
