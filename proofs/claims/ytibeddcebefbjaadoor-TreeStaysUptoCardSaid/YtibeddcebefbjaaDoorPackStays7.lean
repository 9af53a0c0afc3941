/-
  TreeStays holds, tied to the program's text: for all arguments of bulk at most 1048576 the law answers true, and its arguments read as before.
-/
import Derived.Test.YtibeddcebefbjaaDoorPackStays6
import Derived.Test.YtibeddcebefbjaaDoorPackStays2
import Derived.StillTailTactics
import Derived.Test.YtibeddcebefbjaaDoorPackStays1
import Derived.Deep.Cut
import Derived.BigQuiet
namespace Go.Proofs.YtibeddcebefbjaaDoor
open Go.RowKit

theorem cells2_keepT {w0 w w' : World} {p q : Addr} {x y : Value} (h : Chg Never w0 w ∧ w.cell? p = some x ∧ w.cell? q = some y) (hc : Chg Never w w') : Chg Never w0 w' ∧ w'.cell? p = some x ∧ w'.cell? q = some y :=
  ⟨h.1.trans hc, hc.cellNever h.2.1, hc.cellNever h.2.2⟩
set_option maxHeartbeats 4000000 in
set_option maxRecDepth 100000 in
theorem put_is (t : List File) (f : File) (v fv : Value) (w : World) (h : Rdv w Never v t) (hf : Rdv w Never fv f.lines) (hp : f.path.size ≤ maxLen) (m : Int) (hm : w.cell? ⟨1, 0, none⟩ = some (.int .i64 m)) (z : atFault t f.path = 0) (zl : linesFault f.lines = 0) (zi : isAt t f.path = true) :
    Calls Tryd.prog 14 #[v, .agg #[.string f.path, fv]] w fun e w' => ∃ r, e = .returned (.tuple #[r, errV (putFault t f)]) ∧ Chg Never w w' ∧ Rdv w' (Old w.heap.size) r (putR t f) := by
  obtain ⟨a, cap, rfl, h1, h2, _⟩ := rdv_slice h
  obtain ⟨fa, fcap, rfl, _, _, _⟩ := rdv_slice hf
  unfold maxLen at h2
  have hA : Chg Never w (w.alloc (.cells #[.string f.path, .slice fa f.lines.length fcap] 37)) := (Chg.refl Never w).alloc _
  have b0 : (w.alloc (.cells #[.string f.path, .slice fa f.lines.length fcap] 37)).cell? ⟨w.heap.size, 0, none⟩ = some (.string f.path) := by simp only [World.cell?]; rw [heap_alloc_new]; rfl
  have b1 : (w.alloc (.cells #[.string f.path, .slice fa f.lines.length fcap] 37)).cell? ⟨w.heap.size, 1, none⟩ = some (.slice fa f.lines.length fcap) := by simp only [World.cell?]; rw [heap_alloc_new]; rfl
  have Z := Lib.hid z
  have hz8 := (atFault_zero z).1
  have hl8 := (treeFault_zero hz8).1
  have HTL := Lib.hid (tree_lines hz8)
  have ZL := Lib.hid zl
  have hfl := linesFault_len zl
  have hpos := posOf_le t f.path
  clear hz8
  have ZI := Lib.hid zi
  have HF : Hid (putFault t f = 0) := by unfold Hid putFault; rw [if_pos z, if_pos zl, if_neg (by rw [zi]; simp)]
  have HR : Hid (putR t f = t.take (posOf t f.path) ++ f :: t.drop (posOf t f.path + 1)) := by unfold Hid putR; rw [if_pos HF.out]; unfold putAt; rw [if_pos zi]
  obtain ⟨x, hx, _⟩ := isAt_get zi
  have hlt := (List.getElem?_eq_some_iff.1 hx).1
  clear z zi zl hx
  go_enter Tryd.func14, Tryd.ntmps14
  go_wp2_with fail
  generalize w.alloc (.cells #[.string f.path, .slice fa f.lines.length fcap] 37) = wA at hA b0 b1 ⊢
  generalize hBe : w.heap.size = B at b0 b1 ⊢
  refine (tree_at_any t f.path _ _ (h.never hA) m (hA.cellNever hm)).mono ?_
  rintro e w2 ⟨rfl, hc2⟩
  have b0 := hc2.cellNever b0
  have b1 := hc2.cellNever b1
  have hw := hA.trans hc2
  clear hA hc2
  rw [show atPos t f.path = posOf t f.path from if_pos Z.out, show atIs t f.path = isAt t f.path from if_pos Z.out, Z.out, ZI.out, errV_zero]
  generalize posOf t f.path = k at hlt HR hpos ⊢
  obtain ⟨sb1, y0, y1, hrunH, hsub1⟩ := slice_gen (P := Tryd.prog) (t := 34) (by kernel_rfl) size_file h 0 k (Nat.zero_le _) (by omega)
  have hrunH := fun (wx : World) => hrunH k wx rfl rfl
  clear y0 y1
  rw [Nat.sub_zero, Nat.sub_zero] at hrunH hsub1
  rw [List.drop_zero] at hsub1
  obtain ⟨sb2, y0, hrunL, y1, hsub2⟩ := slice_gen (P := Tryd.prog) (t := 34) (by kernel_rfl) size_file h k t.length (by omega) (Nat.le_refl _)
  have hrunL := fun (wx : World) => hrunL k wx rfl rfl
  clear y0 y1
  rw [List.take_of_length_le (by rw [List.length_drop]; omega)] at hsub2
  obtain ⟨sb3, y0, hrunM, y1, hsub3⟩ := slice_gen (P := Tryd.prog) (t := 34) (by kernel_rfl) size_file h (k + 1) t.length (by omega) (Nat.le_refl _)
  have hrunM := fun (wx : World) => hrunM ((k : Int) + 1) wx (by push_cast; rfl) rfl
  clear y0 y1
  rw [List.take_of_length_le (by rw [List.length_drop]; omega)] at hsub3
  have E1 : Hid ((t.take k).length = k) := by rw [Hid, List.length_take]; omega
  have HFL : Hid ([t.take k, [f], t.drop (k + 1)].flatten = t.take k ++ f :: t.drop (k + 1)) := by unfold Hid; simp
  have hrl : (t.drop (k + 1)).length ≤ 8 := by rw [List.length_drop]; omega
  have hbl : [t.take k, [f], t.drop (k + 1)].flatten.length ≤ 1000000 := by rw [HFL.out, List.length_append, List.length_cons, E1.out]; omega
  have hda : (t.take k ++ f :: t.drop (k + 1)).length ≤ 1000000 := by rw [← HFL.out]; exact hbl
  have HDL : Hid (∀ x ∈ t.take k ++ f :: t.drop (k + 1), x.lines.length ≤ 1000000) := fun x hx => by
    rcases List.mem_append.1 hx with hx | hx
    · have := HTL.out x (List.mem_of_mem_take hx); omega
    · rcases List.mem_cons.1 hx with rfl | hx
      · omega
      · have := HTL.out x (List.mem_of_mem_drop hx); omega
  go_wp2_with fail
  refine (check_any f.lines _ _ (hf.never hw)).mono ?_
  rintro e w3 ⟨rfl, hw3⟩
  have hfr : Rdv (w2.alloc (.cells #[.string f.path, .slice fa f.lines.length fcap] 37)) Never (.slice (some ⟨w2.heap.size, 0, none⟩) 1 1) [f] := rdv_lit (cs := [.string f.path, .slice fa f.lines.length fcap]) (heap_alloc_new w2 _) rfl (by simp) ⟨⟨_, rfl, hp, hf.never (hw.alloc _)⟩, trivial⟩
  rw [ZL.out, errV_zero, ← hw3]
  clear hw3
  go_wp2_with fail
  refine wp_region_held_drew (S := fun w' => Chg Never w w' ∧ w'.cell? ⟨B, 0, none⟩ = some (.string f.path) ∧ w'.cell? ⟨B, 1, none⟩ = some (.slice fa f.lines.length fcap)) (by kernel_rfl) ⟨hw.drew, b0, b1⟩ (fun hH => ?_)
  refine' wpAnyH_take (i := 0) ?hi0 (by kernel_rfl) (by kernel_rfl) (by kernel_rfl) ?hQ0 (Or.inl ⟨?hw0, ?hy0⟩) (by assumption) ?_
  case hi0 => (simp only [List.getElem?_toArray, List.getElem?_cons_succ, List.getElem?_cons_zero]; rfl)
  case hQ0 => exact fun _ _ _ h => h
  case hw0 => rfl
  case hy0 => (intro w' hSw; (try dsimp only at hSw); go_simp; all_goals with_reducible rfl)
  try simp only [Act.put, List.setIfInBounds_toArray, List.set_cons_zero, List.set_cons_succ]
  refine' wpAnyH_take (i := 1) ?hi1 (by kernel_rfl) (by kernel_rfl) (by kernel_rfl) ?hQ1 (Or.inl ⟨?hw1, ?hy1⟩) (by assumption) ?_
  case hi1 => (simp only [List.getElem?_toArray, List.getElem?_cons_succ, List.getElem?_cons_zero]; rfl)
  case hQ1 => exact fun _ _ _ h => h
  case hw1 => rfl
  case hy1 => (intro w' hSw; (try dsimp only at hSw); go_simp; all_goals with_reducible rfl)
  try simp only [Act.put, List.setIfInBounds_toArray, List.set_cons_zero, List.set_cons_succ]
  refine' wpAnyH_take (i := 2) ?hi2 (by kernel_rfl) (by kernel_rfl) (by kernel_rfl) ?hQ2 (Or.inl ⟨?hw2, ?hy2⟩) (by assumption) ?_
  case hi2 => (simp only [List.getElem?_toArray, List.getElem?_cons_succ, List.getElem?_cons_zero]; rfl)
  case hQ2 => exact fun _ _ _ h => h
  case hw2 => rfl
  case hy2 => (intro w' hSw; (try dsimp only at hSw); go_simp; all_goals with_reducible rfl)
  try simp only [Act.put, List.setIfInBounds_toArray, List.set_cons_zero, List.set_cons_succ]
  refine' wpAnyH_take (i := 3) ?hi3 (by kernel_rfl) (by kernel_rfl) (by kernel_rfl) ?hQ3 (Or.inl ⟨?hw3, ?hy3⟩) (by assumption) ?_
  case hi3 => (simp only [List.getElem?_toArray, List.getElem?_cons_succ, List.getElem?_cons_zero]; rfl)
  case hQ3 => exact fun _ _ _ h => h
  case hw3 => rfl
  case hy3 => (intro w' hSw; (try dsimp only at hSw); go_simp; all_goals with_reducible rfl)
  try simp only [Act.put, List.setIfInBounds_toArray, List.set_cons_zero, List.set_cons_succ]
  refine' wpAnyH_take (i := 5) ?hi5 (by kernel_rfl) (by kernel_rfl) (by kernel_rfl) ?hQ5 (Or.inl ⟨?hw5, ?hy5⟩) (by assumption) ?_
  case hi5 => (simp only [List.getElem?_toArray, List.getElem?_cons_succ, List.getElem?_cons_zero]; rfl)
  case hQ5 => exact fun _ _ _ h => h
  case hw5 => rfl
  case hy5 => (intro w' hSw; (try dsimp only at hSw); go_simp; all_goals with_reducible rfl)
  try simp only [Act.put, List.setIfInBounds_toArray, List.set_cons_zero, List.set_cons_succ]
  refine wpAnyH_ready (rs := [4]) (by kernel_rfl) (by simp) ?_
  refine AllReadyH.cons rfl (fun K hK => ?_) AllReadyH.nil
  go_simp
  refine hK.out _ _ ⟨hH.1.alloc _, ((Chg.refl Never _).alloc _).cellNever hH.2.1, ((Chg.refl Never _).alloc _).cellNever hH.2.2⟩ (fun hHn => ?_)
  clear hK K
  try simp only [Act.put, List.setIfInBounds_toArray, List.set_cons_zero, List.set_cons_succ]
  clear hH
  have hH := hHn
  clear hHn
  refine wpAnyH_ready (rs := [6]) (by kernel_rfl) (by simp) ?_
  refine AllReadyH.cons rfl (fun K hK => ?_) AllReadyH.nil
  go_simp
  refine hK.out _ _ ⟨hH.1.alloc _, ((Chg.refl Never _).alloc _).cellNever hH.2.1, ((Chg.refl Never _).alloc _).cellNever hH.2.2⟩ (fun hHn => ?_)
  clear hK K
  try simp only [Act.put, List.setIfInBounds_toArray, List.set_cons_zero, List.set_cons_succ]
  clear hH
  have hH := hHn
  clear hHn
  refine wpAnyH_ready (rs := [7]) (by kernel_rfl) (by simp) ?_
  refine AllReadyH.cons rfl (fun K hK => ?_) AllReadyH.nil
  go_simp
  (go_at_call 42; refine (concatf_any [t.take k, [f], t.drop (k + 1)] _ _ (rdv_lit (cs := [.slice sb1 k cap, .slice (some ⟨w2.heap.size, 0, none⟩) 1 1, .slice sb3 (t.length - (k + 1)) (cap - (k + 1))]) (by have e := heap_alloc_new (w2.alloc (.cells #[.string f.path, .slice fa f.lines.length fcap] 37)) (.cells #[.slice sb1 k cap, .slice (some ⟨w2.heap.size, 0, none⟩) 1 1, .slice sb3 (t.length - (k + 1)) (cap - (k + 1))] 34); rw [World.size_alloc] at e; exact e) rfl (by simp) ⟨(hsub1.never hH.1), (hfr.never ((Chg.refl Never _).alloc _).drew), (hsub3.never hH.1), trivial⟩) hbl).mono ?_; rintro e wq ⟨rq, rfl, hnq⟩; rw [HFL.out] at hnq; have hrq := hnq.own.rdv.sub (O' := Never) (fun _ _ h => h.elim); obtain ⟨qa, qn, qc, rfl⟩ := own_isSlice hnq.own; have hS2 := cells2_keepT hH hnq.chg; clear hH hnq)
  try go_wp2_with fail
  refine hK.out _ _ ?_ (fun hH => ?_)
  · assumption
  clear hK K
  try simp only [Act.put, List.setIfInBounds_toArray, List.set_cons_zero, List.set_cons_succ]
  refine wpAnyH_ready (rs := [8]) (by kernel_rfl) (by simp) ?_
  refine AllReadyH.cons rfl (fun K hK => ?_) AllReadyH.nil
  go_simp
  (go_at_call 41; refine (tree_copy_any (t.take k ++ f :: t.drop (k + 1)) _ _ hrq hda HDL.out).mono ?_; rintro e wq2 ⟨rq2, rfl, hcq2, hown2⟩; have hsz2 := hH.1.size; have hr2 := hown2.rdv.sub (O' := Old w.heap.size) (fun j _ hj => Nat.lt_of_lt_of_le hj hsz2); obtain ⟨ra, rn, rc, rfl⟩ := own_isSlice hown2; have hS3 := cells2_keepT hH hcq2; clear hH hcq2 hown2)
  try go_wp2_with fail
  refine hK.out _ _ ?_ (fun hH => ?_)
  · assumption
  clear hK K
  try simp only [Act.put, List.setIfInBounds_toArray, List.set_cons_zero, List.set_cons_succ]
  refine' wpAnyH_take (i := 9) ?hi9 (by kernel_rfl) (by kernel_rfl) (by kernel_rfl) ?hQ9 (Or.inl ⟨?hw9, ?hy9⟩) (by assumption) ?_
  case hi9 => (simp only [List.getElem?_toArray, List.getElem?_cons_succ, List.getElem?_cons_zero]; rfl)
  case hQ9 => exact fun _ _ _ h => h
  case hw9 => rfl
  case hy9 => (intro w' hSw; (try dsimp only at hSw); go_simp; all_goals with_reducible rfl)
  try simp only [Act.put, List.setIfInBounds_toArray, List.set_cons_zero, List.set_cons_succ]
  refine' wpAnyH_take (i := 10) ?hi10 (by kernel_rfl) (by kernel_rfl) (by kernel_rfl) ?hQ10 (Or.inl ⟨?hw10, ?hy10⟩) (by assumption) ?_
  case hi10 => (simp only [List.getElem?_toArray, List.getElem?_cons_succ, List.getElem?_cons_zero]; rfl)
  case hQ10 => exact fun _ _ _ h => h
  case hw10 => rfl
  case hy10 => (intro w' hSw; (try dsimp only at hSw); go_simp; all_goals with_reducible rfl)
  try simp only [Act.put, List.setIfInBounds_toArray, List.set_cons_zero, List.set_cons_succ]
  refine wpAnyH_done (by kernel_rfl) ?_ _
  go_wp2_with fail
  go_ret2
  exact ⟨_, by rw [HF.out]; rfl, hH.1, by rw [HR.out]; exact hr2⟩
set_option maxHeartbeats 4000000 in
set_option maxRecDepth 100000 in
theorem put_new (t : List File) (f : File) (v fv : Value) (w : World) (h : Rdv w Never v t) (hf : Rdv w Never fv f.lines) (hp : f.path.size ≤ maxLen) (m : Int) (hm : w.cell? ⟨1, 0, none⟩ = some (.int .i64 m)) (z : atFault t f.path = 0) (zl : linesFault f.lines = 0) (zi : isAt t f.path = false) :
    Calls Tryd.prog 14 #[v, .agg #[.string f.path, fv]] w fun e w' => ∃ r, e = .returned (.tuple #[r, errV (putFault t f)]) ∧ Chg Never w w' ∧ Rdv w' (Old w.heap.size) r (putR t f) := by
  obtain ⟨a, cap, rfl, h1, h2, _⟩ := rdv_slice h
  obtain ⟨fa, fcap, rfl, _, _, _⟩ := rdv_slice hf
  unfold maxLen at h2
  have hA : Chg Never w (w.alloc (.cells #[.string f.path, .slice fa f.lines.length fcap] 37)) := (Chg.refl Never w).alloc _
  have b0 : (w.alloc (.cells #[.string f.path, .slice fa f.lines.length fcap] 37)).cell? ⟨w.heap.size, 0, none⟩ = some (.string f.path) := by simp only [World.cell?]; rw [heap_alloc_new]; rfl
  have b1 : (w.alloc (.cells #[.string f.path, .slice fa f.lines.length fcap] 37)).cell? ⟨w.heap.size, 1, none⟩ = some (.slice fa f.lines.length fcap) := by simp only [World.cell?]; rw [heap_alloc_new]; rfl
  have Z := Lib.hid z
  have hz8 := (atFault_zero z).1
  have hl8 := (treeFault_zero hz8).1
  have HTL := Lib.hid (tree_lines hz8)
  have ZL := Lib.hid zl
  have hfl := linesFault_len zl
  have hpos := posOf_le t f.path
  clear hz8
  have ZI := Lib.hid zi
  by_cases h8 : t.length = 8
  · have HF : Hid (putFault t f = 3) := by unfold Hid putFault; rw [if_pos z, if_pos zl, if_pos ⟨zi, h8⟩]
    have HR : Hid (putR t f = []) := if_neg (by rw [HF.out]; decide)
    have t8 : ((t.length : Int) == 8) = true := by rw [h8]; rfl
    clear z zi zl h8
    go_enter Tryd.func14, Tryd.ntmps14
    go_wp2_with fail
    generalize w.alloc (.cells #[.string f.path, .slice fa f.lines.length fcap] 37) = wA at hA b0 b1 ⊢
    generalize hBe : w.heap.size = B at b0 b1 ⊢
    refine (tree_at_any t f.path _ _ (h.never hA) m (hA.cellNever hm)).mono ?_
    rintro e w2 ⟨rfl, hc2⟩
    have b0 := hc2.cellNever b0
    have b1 := hc2.cellNever b1
    have hw := hA.trans hc2
    clear hA hc2
    rw [show atPos t f.path = posOf t f.path from if_pos Z.out, show atIs t f.path = isAt t f.path from if_pos Z.out, Z.out, ZI.out, errV_zero]
    generalize posOf t f.path = k at HR hpos ⊢
    obtain ⟨sb1, y0, y1, hrunH, hsub1⟩ := slice_gen (P := Tryd.prog) (t := 34) (by kernel_rfl) size_file h 0 k (Nat.zero_le _) (by omega)
    have hrunH := fun (wx : World) => hrunH k wx rfl rfl
    clear y0 y1
    rw [Nat.sub_zero, Nat.sub_zero] at hrunH hsub1
    rw [List.drop_zero] at hsub1
    obtain ⟨sb2, y0, hrunL, y1, hsub2⟩ := slice_gen (P := Tryd.prog) (t := 34) (by kernel_rfl) size_file h k t.length (by omega) (Nat.le_refl _)
    have hrunL := fun (wx : World) => hrunL k wx rfl rfl
    clear y0 y1
    rw [List.take_of_length_le (by rw [List.length_drop]; omega)] at hsub2
    go_wp2_with fail
    refine (check_any f.lines _ _ (hf.never hw)).mono ?_
    rintro e w3 ⟨rfl, rfl⟩
    rw [ZL.out, errV_zero]
    go_wp2_with fail
    go_ret2
    exact ⟨_, by rw [HF.out]; rfl, hw, by rw [HR.out]; exact rdv_nil _ _⟩
  · have HF : Hid (putFault t f = 0) := by unfold Hid putFault; rw [if_pos z, if_pos zl, if_neg (fun hh => h8 hh.2)]
    have HR : Hid (putR t f = t.take (posOf t f.path) ++ f :: t.drop (posOf t f.path)) := by unfold Hid putR; rw [if_pos HF.out]; unfold putAt; rw [if_neg (by rw [zi]; decide)]
    have t8 : ((t.length : Int) == 8) = false := by simp; omega
    clear z zi zl h8
    go_enter Tryd.func14, Tryd.ntmps14
    go_wp2_with fail
    generalize w.alloc (.cells #[.string f.path, .slice fa f.lines.length fcap] 37) = wA at hA b0 b1 ⊢
    generalize hBe : w.heap.size = B at b0 b1 ⊢
    refine (tree_at_any t f.path _ _ (h.never hA) m (hA.cellNever hm)).mono ?_
    rintro e w2 ⟨rfl, hc2⟩
    have b0 := hc2.cellNever b0
    have b1 := hc2.cellNever b1
    have hw := hA.trans hc2
    clear hA hc2
    rw [show atPos t f.path = posOf t f.path from if_pos Z.out, show atIs t f.path = isAt t f.path from if_pos Z.out, Z.out, ZI.out, errV_zero]
    generalize posOf t f.path = k at HR hpos ⊢
    obtain ⟨sb1, y0, y1, hrunH, hsub1⟩ := slice_gen (P := Tryd.prog) (t := 34) (by kernel_rfl) size_file h 0 k (Nat.zero_le _) (by omega)
    have hrunH := fun (wx : World) => hrunH k wx rfl rfl
    clear y0 y1
    rw [Nat.sub_zero, Nat.sub_zero] at hrunH hsub1
    rw [List.drop_zero] at hsub1
    obtain ⟨sb2, y0, hrunL, y1, hsub2⟩ := slice_gen (P := Tryd.prog) (t := 34) (by kernel_rfl) size_file h k t.length (by omega) (Nat.le_refl _)
    have hrunL := fun (wx : World) => hrunL k wx rfl rfl
    clear y0 y1
    rw [List.take_of_length_le (by rw [List.length_drop]; omega)] at hsub2
    have E1 : Hid ((t.take k).length = k) := by rw [Hid, List.length_take]; omega
    have HFL : Hid ([t.take k, [f], t.drop k].flatten = t.take k ++ f :: t.drop k) := by unfold Hid; simp
    have hrl : (t.drop k).length ≤ 8 := by rw [List.length_drop]; omega
    have hbl : [t.take k, [f], t.drop k].flatten.length ≤ 1000000 := by rw [HFL.out, List.length_append, List.length_cons, E1.out]; omega
    have hda : (t.take k ++ f :: t.drop k).length ≤ 1000000 := by rw [← HFL.out]; exact hbl
    have HDL : Hid (∀ x ∈ t.take k ++ f :: t.drop k, x.lines.length ≤ 1000000) := fun x hx => by
      rcases List.mem_append.1 hx with hx | hx
      · have := HTL.out x (List.mem_of_mem_take hx); omega
      · rcases List.mem_cons.1 hx with rfl | hx
        · omega
        · have := HTL.out x (List.mem_of_mem_drop hx); omega
    go_wp2_with fail
    refine (check_any f.lines _ _ (hf.never hw)).mono ?_
    rintro e w3 ⟨rfl, hw3⟩
    have hfr : Rdv (w2.alloc (.cells #[.string f.path, .slice fa f.lines.length fcap] 37)) Never (.slice (some ⟨w2.heap.size, 0, none⟩) 1 1) [f] := rdv_lit (cs := [.string f.path, .slice fa f.lines.length fcap]) (heap_alloc_new w2 _) rfl (by simp) ⟨⟨_, rfl, hp, hf.never (hw.alloc _)⟩, trivial⟩
    rw [ZL.out, errV_zero, ← hw3]
    clear hw3
    go_wp2_with fail
    refine wp_region_held_drew (S := fun w' => Chg Never w w' ∧ w'.cell? ⟨B, 0, none⟩ = some (.string f.path) ∧ w'.cell? ⟨B, 1, none⟩ = some (.slice fa f.lines.length fcap)) (by kernel_rfl) ⟨hw.drew, b0, b1⟩ (fun hH => ?_)
    refine' wpAnyH_take (i := 0) ?hi0 (by kernel_rfl) (by kernel_rfl) (by kernel_rfl) ?hQ0 (Or.inl ⟨?hw0, ?hy0⟩) (by assumption) ?_
    case hi0 => (simp only [List.getElem?_toArray, List.getElem?_cons_succ, List.getElem?_cons_zero]; rfl)
    case hQ0 => exact fun _ _ _ h => h
    case hw0 => rfl
    case hy0 => (intro w' hSw; (try dsimp only at hSw); go_simp; all_goals with_reducible rfl)
    try simp only [Act.put, List.setIfInBounds_toArray, List.set_cons_zero, List.set_cons_succ]
    refine' wpAnyH_take (i := 1) ?hi1 (by kernel_rfl) (by kernel_rfl) (by kernel_rfl) ?hQ1 (Or.inl ⟨?hw1, ?hy1⟩) (by assumption) ?_
    case hi1 => (simp only [List.getElem?_toArray, List.getElem?_cons_succ, List.getElem?_cons_zero]; rfl)
    case hQ1 => exact fun _ _ _ h => h
    case hw1 => rfl
    case hy1 => (intro w' hSw; (try dsimp only at hSw); go_simp; all_goals with_reducible rfl)
    try simp only [Act.put, List.setIfInBounds_toArray, List.set_cons_zero, List.set_cons_succ]
    refine' wpAnyH_take (i := 2) ?hi2 (by kernel_rfl) (by kernel_rfl) (by kernel_rfl) ?hQ2 (Or.inl ⟨?hw2, ?hy2⟩) (by assumption) ?_
    case hi2 => (simp only [List.getElem?_toArray, List.getElem?_cons_succ, List.getElem?_cons_zero]; rfl)
    case hQ2 => exact fun _ _ _ h => h
    case hw2 => rfl
    case hy2 => (intro w' hSw; (try dsimp only at hSw); go_simp; all_goals with_reducible rfl)
    try simp only [Act.put, List.setIfInBounds_toArray, List.set_cons_zero, List.set_cons_succ]
    refine' wpAnyH_take (i := 3) ?hi3 (by kernel_rfl) (by kernel_rfl) (by kernel_rfl) ?hQ3 (Or.inl ⟨?hw3, ?hy3⟩) (by assumption) ?_
    case hi3 => (simp only [List.getElem?_toArray, List.getElem?_cons_succ, List.getElem?_cons_zero]; rfl)
    case hQ3 => exact fun _ _ _ h => h
    case hw3 => rfl
    case hy3 => (intro w' hSw; (try dsimp only at hSw); go_simp; all_goals with_reducible rfl)
    try simp only [Act.put, List.setIfInBounds_toArray, List.set_cons_zero, List.set_cons_succ]
    refine' wpAnyH_take (i := 5) ?hi5 (by kernel_rfl) (by kernel_rfl) (by kernel_rfl) ?hQ5 (Or.inl ⟨?hw5, ?hy5⟩) (by assumption) ?_
    case hi5 => (simp only [List.getElem?_toArray, List.getElem?_cons_succ, List.getElem?_cons_zero]; rfl)
    case hQ5 => exact fun _ _ _ h => h
    case hw5 => rfl
    case hy5 => (intro w' hSw; (try dsimp only at hSw); go_simp; all_goals with_reducible rfl)
    try simp only [Act.put, List.setIfInBounds_toArray, List.set_cons_zero, List.set_cons_succ]
    refine wpAnyH_ready (rs := [4]) (by kernel_rfl) (by simp) ?_
    refine AllReadyH.cons rfl (fun K hK => ?_) AllReadyH.nil
    go_simp
    refine hK.out _ _ ⟨hH.1.alloc _, ((Chg.refl Never _).alloc _).cellNever hH.2.1, ((Chg.refl Never _).alloc _).cellNever hH.2.2⟩ (fun hHn => ?_)
    clear hK K
    try simp only [Act.put, List.setIfInBounds_toArray, List.set_cons_zero, List.set_cons_succ]
    clear hH
    have hH := hHn
    clear hHn
    refine wpAnyH_ready (rs := [6]) (by kernel_rfl) (by simp) ?_
    refine AllReadyH.cons rfl (fun K hK => ?_) AllReadyH.nil
    go_simp
    refine hK.out _ _ ⟨hH.1.alloc _, ((Chg.refl Never _).alloc _).cellNever hH.2.1, ((Chg.refl Never _).alloc _).cellNever hH.2.2⟩ (fun hHn => ?_)
    clear hK K
    try simp only [Act.put, List.setIfInBounds_toArray, List.set_cons_zero, List.set_cons_succ]
    clear hH
    have hH := hHn
    clear hHn
    refine wpAnyH_ready (rs := [7]) (by kernel_rfl) (by simp) ?_
    refine AllReadyH.cons rfl (fun K hK => ?_) AllReadyH.nil
    go_simp
    (go_at_call 42; refine (concatf_any [t.take k, [f], t.drop k] _ _ (rdv_lit (cs := [.slice sb1 k cap, .slice (some ⟨w2.heap.size, 0, none⟩) 1 1, .slice sb2 (t.length - k) (cap - k)]) (by have e := heap_alloc_new (w2.alloc (.cells #[.string f.path, .slice fa f.lines.length fcap] 37)) (.cells #[.slice sb1 k cap, .slice (some ⟨w2.heap.size, 0, none⟩) 1 1, .slice sb2 (t.length - k) (cap - k)] 34); rw [World.size_alloc] at e; exact e) rfl (by simp) ⟨(hsub1.never hH.1), (hfr.never ((Chg.refl Never _).alloc _).drew), (hsub2.never hH.1), trivial⟩) hbl).mono ?_; rintro e wq ⟨rq, rfl, hnq⟩; rw [HFL.out] at hnq; have hrq := hnq.own.rdv.sub (O' := Never) (fun _ _ h => h.elim); obtain ⟨qa, qn, qc, rfl⟩ := own_isSlice hnq.own; have hS2 := cells2_keepT hH hnq.chg; clear hH hnq)
    try go_wp2_with fail
    refine hK.out _ _ ?_ (fun hH => ?_)
    · assumption
    clear hK K
    try simp only [Act.put, List.setIfInBounds_toArray, List.set_cons_zero, List.set_cons_succ]
    refine wpAnyH_ready (rs := [8]) (by kernel_rfl) (by simp) ?_
    refine AllReadyH.cons rfl (fun K hK => ?_) AllReadyH.nil
    go_simp
    (go_at_call 41; refine (tree_copy_any (t.take k ++ f :: t.drop k) _ _ hrq hda HDL.out).mono ?_; rintro e wq2 ⟨rq2, rfl, hcq2, hown2⟩; have hsz2 := hH.1.size; have hr2 := hown2.rdv.sub (O' := Old w.heap.size) (fun j _ hj => Nat.lt_of_lt_of_le hj hsz2); obtain ⟨ra, rn, rc, rfl⟩ := own_isSlice hown2; have hS3 := cells2_keepT hH hcq2; clear hH hcq2 hown2)
    try go_wp2_with fail
    refine hK.out _ _ ?_ (fun hH => ?_)
    · assumption
    clear hK K
    try simp only [Act.put, List.setIfInBounds_toArray, List.set_cons_zero, List.set_cons_succ]
    refine' wpAnyH_take (i := 9) ?hi9 (by kernel_rfl) (by kernel_rfl) (by kernel_rfl) ?hQ9 (Or.inl ⟨?hw9, ?hy9⟩) (by assumption) ?_
    case hi9 => (simp only [List.getElem?_toArray, List.getElem?_cons_succ, List.getElem?_cons_zero]; rfl)
    case hQ9 => exact fun _ _ _ h => h
    case hw9 => rfl
    case hy9 => (intro w' hSw; (try dsimp only at hSw); go_simp; all_goals with_reducible rfl)
    try simp only [Act.put, List.setIfInBounds_toArray, List.set_cons_zero, List.set_cons_succ]
    refine' wpAnyH_take (i := 10) ?hi10 (by kernel_rfl) (by kernel_rfl) (by kernel_rfl) ?hQ10 (Or.inl ⟨?hw10, ?hy10⟩) (by assumption) ?_
    case hi10 => (simp only [List.getElem?_toArray, List.getElem?_cons_succ, List.getElem?_cons_zero]; rfl)
    case hQ10 => exact fun _ _ _ h => h
    case hw10 => rfl
    case hy10 => (intro w' hSw; (try dsimp only at hSw); go_simp; all_goals with_reducible rfl)
    try simp only [Act.put, List.setIfInBounds_toArray, List.set_cons_zero, List.set_cons_succ]
    refine wpAnyH_done (by kernel_rfl) ?_ _
    go_wp2_with fail
    go_ret2
    exact ⟨_, by rw [HF.out]; rfl, hH.1, by rw [HR.out]; exact hr2⟩
set_option maxHeartbeats 4000000 in
set_option maxRecDepth 100000 in
theorem tree_put_any (t : List File) (f : File) (v fv : Value) (w : World) (h : Rdv w Never v t) (hf : Rdv w Never fv f.lines) (hp : f.path.size ≤ maxLen) (m : Int) (hm : w.cell? ⟨1, 0, none⟩ = some (.int .i64 m)) :
    Calls Tryd.prog 14 #[v, .agg #[.string f.path, fv]] w fun e w' => ∃ r, e = .returned (.tuple #[r, errV (putFault t f)]) ∧ Chg Never w w' ∧ Rdv w' (Old w.heap.size) r (putR t f) := by
  by_cases z : atFault t f.path = 0
  · by_cases zl : linesFault f.lines = 0
    · cases zi : isAt t f.path with
      | true => exact put_is t f v fv w h hf hp m hm z zl zi
      | false => exact put_new t f v fv w h hf hp m hm z zl zi
    · have Z := Lib.hid z
      obtain ⟨a, cap, rfl, h1, h2, _⟩ := rdv_slice h
      obtain ⟨fa, fcap, rfl, _, _, _⟩ := rdv_slice hf
      unfold maxLen at h2
      have hA : Chg Never w (w.alloc (.cells #[.string f.path, .slice fa f.lines.length fcap] 37)) := (Chg.refl Never w).alloc _
      have b0 : (w.alloc (.cells #[.string f.path, .slice fa f.lines.length fcap] 37)).cell? ⟨w.heap.size, 0, none⟩ = some (.string f.path) := by simp only [World.cell?]; rw [heap_alloc_new]; rfl
      have b1 : (w.alloc (.cells #[.string f.path, .slice fa f.lines.length fcap] 37)).cell? ⟨w.heap.size, 1, none⟩ = some (.slice fa f.lines.length fcap) := by simp only [World.cell?]; rw [heap_alloc_new]; rfl
      have HF : Hid (putFault t f = linesFault f.lines) := by unfold Hid putFault; rw [if_pos z, if_neg zl]
      have HR : Hid (putR t f = []) := if_neg (by rw [HF.out]; exact zl)
      have ZL := Lib.hid zl
      clear z zl
      go_enter Tryd.func14, Tryd.ntmps14
      go_wp2_with fail
      generalize w.alloc (.cells #[.string f.path, .slice fa f.lines.length fcap] 37) = wA at hA b0 b1 ⊢
      generalize hBe : w.heap.size = B at b0 b1 ⊢
      refine (tree_at_any t f.path _ _ (h.never hA) m (hA.cellNever hm)).mono ?_
      rintro e w2 ⟨rfl, hc2⟩
      have b0 := hc2.cellNever b0
      have b1 := hc2.cellNever b1
      have hw := hA.trans hc2
      clear hA hc2
      rw [show atPos t f.path = posOf t f.path from if_pos Z.out, show atIs t f.path = isAt t f.path from if_pos Z.out, Z.out, errV_zero]
      go_wp2_with fail
      refine (check_any f.lines _ _ (hf.never hw)).mono ?_
      rintro e w3 ⟨rfl, rfl⟩
      rw [errV_pos ZL.out]
      go_wp2_with fail
      go_ret2
      exact ⟨_, by rw [HF.out, errV_pos ZL.out]; rfl, hw, by rw [HR.out]; exact rdv_nil _ _⟩
  · have Z := Lib.hid z
    obtain ⟨a, cap, rfl, h1, h2, _⟩ := rdv_slice h
    obtain ⟨fa, fcap, rfl, _, _, _⟩ := rdv_slice hf
    unfold maxLen at h2
    have hA : Chg Never w (w.alloc (.cells #[.string f.path, .slice fa f.lines.length fcap] 37)) := (Chg.refl Never w).alloc _
    have b0 : (w.alloc (.cells #[.string f.path, .slice fa f.lines.length fcap] 37)).cell? ⟨w.heap.size, 0, none⟩ = some (.string f.path) := by simp only [World.cell?]; rw [heap_alloc_new]; rfl
    have b1 : (w.alloc (.cells #[.string f.path, .slice fa f.lines.length fcap] 37)).cell? ⟨w.heap.size, 1, none⟩ = some (.slice fa f.lines.length fcap) := by simp only [World.cell?]; rw [heap_alloc_new]; rfl
    have HF : Hid (putFault t f = atFault t f.path) := if_neg z
    have HR : Hid (putR t f = []) := if_neg (by rw [HF.out]; exact z)
    clear z
    go_enter Tryd.func14, Tryd.ntmps14
    go_wp2_with fail
    generalize w.alloc (.cells #[.string f.path, .slice fa f.lines.length fcap] 37) = wA at hA b0 b1 ⊢
    generalize hBe : w.heap.size = B at b0 b1 ⊢
    refine (tree_at_any t f.path _ _ (h.never hA) m (hA.cellNever hm)).mono ?_
    rintro e w2 ⟨rfl, hc2⟩
    have b0 := hc2.cellNever b0
    have b1 := hc2.cellNever b1
    have hw := hA.trans hc2
    clear hA hc2
    rw [show atPos t f.path = 0 from if_neg Z.out, show atIs t f.path = false from if_neg Z.out, errV_pos Z.out]
    go_wp2_with fail
    go_ret2
    exact ⟨_, by rw [HF.out, errV_pos Z.out]; rfl, hw, by rw [HR.out]; exact rdv_nil _ _⟩
end Go.Proofs.YtibeddcebefbjaaDoor
namespace Go.Proofs.YtibeddcebefbjaaDoor

theorem placeI_is {t : List File} (h : Sorted t) {p : ByteArray} (hi : isAt t p = true) : placeI t p = posOf t p := by
  unfold placeI; rw [placeOf_sorted h, if_pos hi]
theorem placeI_not {t : List File} (h : Sorted t) {p : ByteArray} (hi : isAt t p = false) : placeI t p = -1 := by
  unfold placeI; rw [placeOf_sorted h, if_neg (by rw [hi]; decide)]
theorem placeI_neg {t : List File} (h : Sorted t) (p : ByteArray) : placeI t p < 0 ↔ isAt t p = false := by
  cases hi : isAt t p with
  | true => rw [placeI_is h hi]; simp
  | false => rw [placeI_not h hi]; simp
theorem atFault_sorted {t : List File} {p : ByteArray} (h : atFault t p = 0) : Sorted t := (treeFault_zero (atFault_zero h).1).2.2.1
theorem getFault_none {t : List File} {p : ByteArray} (h : atFault t p = 0 ∧ placeI t p < 0) : getFault t p = 4 := by
  unfold getFault; rw [if_pos h.1, if_neg (by rw [(placeI_neg (atFault_sorted h.1) p).1 h.2]; decide)]
theorem getFault_else {t : List File} {p : ByteArray} (h : ¬ (atFault t p = 0 ∧ placeI t p < 0)) : getFault t p = atFault t p := by
  unfold getFault
  by_cases e : atFault t p = 0
  · have hi : isAt t p = true := by
      cases hi : isAt t p with
      | true => rfl
      | false => exact absurd ⟨e, (placeI_neg (atFault_sorted e) p).2 hi⟩ h
    rw [if_pos e, if_pos hi, e]
  · rw [if_neg e]
def put2Fault (t : List File) (f : File) : Int := if atFault t f.path = 0 then linesFault f.lines else atFault t f.path
theorem putFault_full {t : List File} {f : File} (h : put2Fault t f = 0 ∧ placeI t f.path < 0 ∧ 8 ≤ t.length) : putFault t f = 3 := by
  unfold put2Fault at h
  by_cases e : atFault t f.path = 0
  · rw [if_pos e] at h
    have := (treeFault_zero (atFault_zero e).1).1
    unfold putFault
    rw [if_pos e, if_pos h.1, if_pos ⟨(placeI_neg (atFault_sorted e) _).1 h.2.1, by omega⟩]
  · rw [if_neg e] at h; exact absurd h.1 e
theorem putFault_else {t : List File} {f : File} (h : ¬ (put2Fault t f = 0 ∧ placeI t f.path < 0 ∧ 8 ≤ t.length)) : putFault t f = put2Fault t f := by
  unfold putFault put2Fault at *
  by_cases e : atFault t f.path = 0
  · rw [if_pos e] at h ⊢
    rw [if_pos e]
    by_cases el : linesFault f.lines = 0
    · rw [if_pos el, if_neg, el]
      rintro ⟨g1, g2⟩
      exact h ⟨el, (placeI_neg (atFault_sorted e) _).2 g1, by omega⟩
    · rw [if_neg el]
  · rw [if_neg e, if_neg e]
theorem putFault_zero {t : List File} {f : File} (h : putFault t f = 0) : atFault t f.path = 0 := by
  unfold putFault at h
  by_cases e : atFault t f.path = 0
  · exact e
  · rw [if_neg e] at h; exact absurd h e
theorem getFault_zero {t : List File} {p : ByteArray} (h : getFault t p = 0) : atFault t p = 0 ∧ isAt t p = true := by
  unfold getFault at h
  by_cases e : atFault t p = 0
  · rw [if_pos e] at h
    by_cases i : isAt t p = true
    · exact ⟨e, i⟩
    · rw [if_neg i] at h; cases h
  · rw [if_neg e] at h; exact absurd h e
end Go.Proofs.YtibeddcebefbjaaDoor
namespace Go.Proofs.YtibeddcebefbjaaDoor

theorem fileFault_is {f : File} (h1 : pathFault f.path = 0) (h2 : linesFault f.lines = 0) : fileFault f = 0 := by unfold fileFault; rw [if_pos h1, h2]
theorem putFault_parts {t : List File} {f : File} (h : putFault t f = 0) : Tree t ∧ fileFault f = 0 ∧ (isAt t f.path = false → t.length < 8) := by
  have ha := putFault_zero h
  unfold putFault at h
  rw [if_pos ha] at h
  by_cases e : linesFault f.lines = 0
  · rw [if_pos e] at h
    obtain ⟨z1, z2⟩ := atFault_zero ha
    have hT := tree_iff.2 z1
    refine ⟨hT, fileFault_is z2 e, fun hi => ?_⟩
    by_cases h8 : t.length = 8
    · rw [if_pos ⟨hi, h8⟩] at h; cases h
    · have := hT.1; omega
  · rw [if_neg e] at h; exact absurd h e
theorem putR_tree {t : List File} {f : File} (h : putFault t f = 0) : Tree (putR t f) := by
  obtain ⟨⟨t1, t2, t3⟩, hf, h8⟩ := putFault_parts h
  rw [putR, if_pos h]
  refine ⟨?_, ?_, putAt_sorted t3 f⟩
  · rw [putAt_len t3]
    by_cases e : isAt t f.path = true
    · rw [if_pos e]; exact t1
    · rw [if_neg e]; have := h8 (by simpa using e); omega
  · intro x hx
    rcases putAt_mem hx with rfl | hx
    · exact hf
    · exact t2 x hx
theorem getFault_look {t : List File} (h : Tree t) (p : ByteArray) : getFault t p = if pathFault p = 0 then (if (look t p).isSome = true then 0 else 4) else pathFault p := by
  unfold getFault atFault
  rw [if_pos (tree_iff.1 h), isAt_look h.2.2]
theorem getR_look {t : List File} (h : Tree t) {p : ByteArray} (hp : pathFault p = 0) : getR t p = (look t p).getD [] := by
  unfold getR
  rw [getFault_look h, if_pos hp]
  cases e : look t p with
  | none => rfl
  | some l =>
    rw [Option.isSome_some, if_pos rfl, if_pos rfl]
    unfold linesAt
    rcases posOf_look h.2.2 p with h' | h'
    · rw [h', e]
    · rw [isAt_look h.2.2, e] at h'; cases h'
theorem getR_bad {t : List File} (h : Tree t) {p : ByteArray} (hp : pathFault p ≠ 0) : getR t p = [] := by
  unfold getR
  rw [getFault_look h, if_neg hp, if_neg hp]
/-- what the law asks behind put -/
theorem stays {t : List File} {f : File} (h : putFault t f = 0) :
    getFault (putR t f) f.path = 0 ∧ getR (putR t f) f.path = f.lines ∧ (treeFault (putR t f)).2 = 0 ∧ getFault (dropR (putR t f) f.path) f.path = 4 := by
  obtain ⟨hT, hf, h8⟩ := putFault_parts h
  have hX := putR_tree h
  have hp := (fileFault_zero hf).1
  have hl : look (putR t f) f.path = some f.lines := by rw [putR, if_pos h, putAt_look hT.2.2, if_pos rfl]
  have g0 : getFault (putR t f) f.path = 0 := by rw [getFault_look hX, if_pos hp, hl]; rfl
  have hi : isAt (putR t f) f.path = true := by rw [isAt_look hX.2.2, hl]; rfl
  refine ⟨g0, by rw [getR_look hX hp, hl]; rfl, tree_iff.1 hX, ?_⟩
  have hY : Tree (dropR (putR t f) f.path) := by
    rw [dropR, if_pos g0]
    refine ⟨?_, fun x hx => hX.2.1 x (dropAt_mem hx), dropAt_sorted hX.2.2 hi⟩
    have := dropAt_len hX.2.2 hi
    have := hX.1
    omega
  rw [getFault_look hY, if_pos hp, dropR, if_pos g0, dropAt_look hX.2.2 hi, if_pos rfl]; rfl
theorem stays_other {t : List File} {f : File} (h : putFault t f = 0) {o : ByteArray} (ho : o ≠ f.path) : getFault t o = getFault (putR t f) o ∧ getR t o = getR (putR t f) o := by
  obtain ⟨hT, hf, h8⟩ := putFault_parts h
  have hX := putR_tree h
  have hl : look (putR t f) o = look t o := by rw [putR, if_pos h, putAt_look hT.2.2, if_neg (fun e => ho e.symm)]
  refine ⟨by rw [getFault_look hT, getFault_look hX, hl], ?_⟩
  by_cases hp : pathFault o = 0
  · rw [getR_look hT hp, getR_look hX hp, hl]
  · rw [getR_bad hT hp, getR_bad hX hp]
theorem stays_len {t : List File} {f : File} (h : putFault t f = 0) (hi : isAt t f.path = true) : (putR t f).length = t.length := by
  rw [putR, if_pos h, putAt_len (putFault_parts h).1.2.2, if_pos hi]
theorem stays_back {t : List File} {f : File} (h : putFault t f = 0) (hi : isAt t f.path = false) : dropR (putR t f) f.path = t := by
  obtain ⟨hT, hf, h8⟩ := putFault_parts h
  obtain ⟨g0, _⟩ := stays h
  have hX := putR_tree h
  have hl : look (putR t f) f.path = some f.lines := by rw [putR, if_pos h, putAt_look hT.2.2, if_pos rfl]
  have hi' : isAt (putR t f) f.path = true := by rw [isAt_look hX.2.2, hl]; rfl
  rw [dropR, if_pos g0]
  refine sorted_ext (dropAt_sorted hX.2.2 hi') hT.2.2 fun p => ?_
  rw [dropAt_look hX.2.2 hi']
  by_cases e : f.path = p
  · rw [if_pos e, ← e]
    rw [isAt_look hT.2.2] at hi
    cases hl : look t f.path with
    | none => rfl
    | some l => rw [hl] at hi; cases hi
  · rw [if_neg e, putR, if_pos h, putAt_look hT.2.2, if_neg e]
end Go.Proofs.YtibeddcebefbjaaDoor
namespace Go.Proofs.YtibeddcebefbjaaDoor
open Go.RowKit

set_option maxHeartbeats 1000000 in
set_option maxRecDepth 100000 in
theorem trees_any (l m : List File) (v u : Value) (w : World) (h : Rdv w Never v l) (g : Rdv w Never u m) :
    Calls Tryd.prog 20 #[v, u] w fun e w' => e = .returned (.bool (decide (l = m))) ∧ Chg Never w w' := by
  obtain ⟨a, cap, rfl, h1, h2, h3⟩ := rdv_slice h
  obtain ⟨c, cap', rfl, g1, g2, g3⟩ := rdv_slice g
  unfold maxLen at h2 g2
  by_cases h4 : l.length = m.length
  · have h4' : ((l.length : Int) != m.length) = false := by simp [h4]
    have H4 := Lib.hid h4
    clear h4
    go_enter Tryd.func20, Tryd.ntmps20
    go_wp2_with fail
    go_loopw [5] (fun i wr => ∃ k : Nat, k ≤ l.length ∧ i = .int .i64 k ∧ Hid (l.take k = m.take k) ∧ Chg Never w wr) (fun i _ => l.length - (intOf i).toNat)
    case atStart => exact ⟨0, Nat.zero_le _, rfl, by simp [Hid], Chg.refl _ _⟩
    case round =>
      obtain ⟨k, hk, rfl, hf, hc⟩ := hrel
      by_cases hlt : k < l.length
      · obtain ⟨x, hx⟩ : ∃ x, l[k]? = some x := ⟨l[k], by simp [hlt]⟩
        obtain ⟨y, hy⟩ : ∃ y, m[k]? = some y := ⟨m[k]'(by rw [← H4.out]; exact hlt), by simp [H4.out ▸ hlt]⟩
        obtain ⟨b, off, mv, rfl, _, _, c0, c1, _, hmv⟩ := elems_file h3 hx
        obtain ⟨b', off', mv', rfl, _, _, d0, d1, _, hmv'⟩ := elems_file g3 hy
        have C0 := Lib.hid c0
        have D0 := Lib.hid d0
        have c1 := hc.cellNever c1
        have d1 := hc.cellNever d1
        have hmv := hmv.never hc
        have hmv' := hmv'.never hc
        clear h3 g3 h g c0 d0
        have hlm : k < m.length := by rw [← H4.out]; exact hlt
        have HX := Lib.hid hx
        have HY := Lib.hid hy
        clear hx hy
        have b1 : (k : Int) < l.length := by omega
        have b2 : (k : Int) < m.length := by omega
        go_wp2_with fail
        refine wp_region_still_tail 10 (by kernel_rfl) (by kernel_rfl) ?_
        simp only [List.take_succ_cons, List.take_zero, List.drop_succ_cons, List.drop_zero]
        change wpStill _ _ wr.drew _ _ _
        repeat still_step
        refine wpStill_nil ?_
        change wpList _ _ _ _ _ wr.drew
        have hcd : Chg Never w wr.drew := hc.drew
        have hmd := hmv.never ((Chg.refl Never wr).drew)
        have hmd' := hmv'.never ((Chg.refl Never wr).drew)
        generalize wr.drew = w3 at hcd hmd hmd'
        clear hmv hmv' c1 d1 hc
        go_wp2_with fail
        refine (texts_any x.lines y.lines _ _ _ hmd hmd').mono ?_
        rintro e w4 ⟨rfl, hc4⟩
        have hc5 := hcd.trans hc4
        have c0 := hc5.cellNever C0.out
        have d0 := hc5.cellNever D0.out
        clear hmd hmd' hcd hc4
        by_cases hls : x.lines = y.lines
        · rw [decide_eq_true hls]
          by_cases hpp : x.path = y.path
          · have hxy : x = y := by
              cases x; cases y
              simp only at hls hpp
              rw [hls, hpp]
            subst hxy
            go_wp2_with fail
            go_quiet (fail)
            go_wp2_with fail
            go_roundw
            case rel => exact ⟨k + 1, by omega, by go_num, take_same hf HX.out HY.out, hc5.drewN _⟩
            case measure => simp [intOf] <;> omega
          · have hxy : x ≠ y := fun e => hpp (by rw [e])
            have t1 := str_beq_false hpp
            have HN := Lib.hid (decide_eq_false (ne_of_get HX.out HY.out hxy))
            clear hls hpp hxy
            go_wp2_with fail
            go_quiet (fail)
            go_wp2_with fail
            go_ret
            exact ⟨by rw [HN.out]; rfl, hc5.drewN _⟩
        · have hxy : x ≠ y := fun e => hls (by rw [e])
          have HN := Lib.hid (decide_eq_false (ne_of_get HX.out HY.out hxy))
          rw [decide_eq_false hls]
          clear hls hxy
          go_wp2_with fail
          go_quiet (fail)
          go_wp2_with fail
          go_ret
          exact ⟨by rw [HN.out]; rfl, hc5.drewN _⟩
      · go_wp2_with fail
        go_ret
        have E : l = m := by
          have := hf.out
          rw [List.take_of_length_le (by omega), List.take_of_length_le (by rw [← H4.out]; omega)] at this
          exact this
        exact ⟨by rw [decide_eq_true E]; rfl, hc⟩
  · have h4' : ((l.length : Int) != m.length) = true := by simp; omega
    go_enter Tryd.func20, Tryd.ntmps20
    go_wp2_with fail
    go_ret
    exact ⟨by rw [decide_eq_false (fun e => h4 (by rw [e]))]; rfl, Chg.refl _ _⟩
end Go.Proofs.YtibeddcebefbjaaDoor
namespace Go.Proofs.YtibeddcebefbjaaDoor
open Go.RowKit

theorem put_a : putFault [] ⟨⟨#[97]⟩, [⟨#[120]⟩]⟩ = 0 ∧ putR [] ⟨⟨#[97]⟩, [⟨#[120]⟩]⟩ = [⟨⟨#[97]⟩, [⟨#[120]⟩]⟩] := by decide +kernel

theorem heap_two (w : World) (x y : Obj) : ((w.alloc x).alloc y).heap[w.heap.size + 1]? = some y := by
  have := heap_alloc_new (w.alloc x) y
  rwa [World.size_alloc] at this
set_option maxHeartbeats 4000000 in
set_option maxRecDepth 100000 in
theorem law_treeStays (t : List File) (f : File) (o : ByteArray) (vt fv : Value) (w : World) (ht : Rdv w Never vt t) (hf : Rdv w Never fv f.lines) (hfp : f.path.size ≤ maxLen) (_ho : o.size ≤ 1048576) (m : Int) (hm : w.cell? ⟨1, 0, none⟩ = some (.int .i64 m)) (hg : w.cell? ⟨0, 0, none⟩ = some errT) :
    Calls Tryd.prog 4 #[vt, .agg #[.string f.path, fv], .string o] w fun e w' => e = .returned (.bool true) ∧ Chg Never w w' := by
  obtain ⟨fa, fcap, rfl, _, _, _⟩ := rdv_slice hf
  obtain ⟨ta, tcap, rfl, t1, t2, _⟩ := rdv_slice ht
  unfold maxLen at t2
  have hA : Chg Never w (w.alloc (.cells #[.string f.path, .slice fa f.lines.length fcap] 37)) := (Chg.refl Never w).alloc _
  have b0 : (w.alloc (.cells #[.string f.path, .slice fa f.lines.length fcap] 37)).cell? ⟨w.heap.size, 0, none⟩ = some (.string f.path) := by simp only [World.cell?]; rw [heap_alloc_new]; rfl
  have b1 : (w.alloc (.cells #[.string f.path, .slice fa f.lines.length fcap] 37)).cell? ⟨w.heap.size, 1, none⟩ = some (.slice fa f.lines.length fcap) := by simp only [World.cell?]; rw [heap_alloc_new]; rfl
  go_enter Tryd.func4, Tryd.ntmps4
  go_wp2_with fail
  have hh := heap_two w (.cells #[.string f.path, .slice fa f.lines.length fcap] 37) (.cells #[.string ⟨#[120]⟩] 9)
  have b0 := ((Chg.refl Never _).alloc (.cells #[.string ⟨#[120]⟩] 9)).cellNever b0
  have b1 := ((Chg.refl Never _).alloc (.cells #[.string ⟨#[120]⟩] 9)).cellNever b1
  have hA := hA.alloc (.cells #[.string ⟨#[120]⟩] 9)
  generalize (w.alloc (.cells #[.string f.path, .slice fa f.lines.length fcap] 37)).alloc (.cells #[.string ⟨#[120]⟩] 9) = wA at hA b0 b1 hh ⊢
  generalize w.heap.size + 1 = B1 at hh ⊢
  generalize w.heap.size = B at b0 b1 ⊢
  have ht := ht.never hA
  have hf := hf.never hA
  have hm := hA.cellNever hm
  have hg := hA.cellNever hg
  have HAA := Lib.hid hA
  have HB0 := Lib.hid b0
  have HB1 := Lib.hid b1
  clear hA b0 b1
  refine (tree_put_any [] ⟨⟨#[97]⟩, [⟨#[120]⟩]⟩ _ _ _ (rdv_nil _ _) (rdv_lit (e := 9) (cs := [.string ⟨#[120]⟩]) hh rfl (by decide) ⟨⟨rfl, by decide⟩, trivial⟩) (by decide) m hm).mono ?_
  rintro e w1 ⟨r1, rfl, hw, hr1⟩
  clear hh
  rw [put_a.1, errV_zero]
  rw [put_a.2] at hr1
  obtain ⟨a1, c1, rfl, _, _, hel⟩ := rdv_slice hr1
  obtain ⟨fb, fo, flv, rfl, _, _, f0, _, _, _⟩ := elems_file hel (i := 0) rfl
  simp only [Nat.zero_mul, Nat.add_zero] at f0
  have hs1 : ((⟨#[97]⟩ : ByteArray).toList != [97]) = false := by decide +kernel
  clear hr1 hel
  have b0 := hw.cellNever HB0.out
  have b1 := hw.cellNever HB1.out
  go_wp2_with fail
  clear f0
  refine (tree_put_any t f _ _ _ (ht.never hw) (hf.never hw) hfp m (hw.cellNever hm)).mono ?_
  rintro e w2 ⟨r2, rfl, hc2, hr2⟩
  have hw := hw.trans hc2
  have hr2 := hr2.sub (O' := Never) (fun _ _ h => h.elim)
  clear hc2
  by_cases z : putFault t f = 0
  · have ST := Lib.hid (stays z)
    have SO : ∀ {o : ByteArray}, o ≠ f.path → Hid (getFault t o = getFault (putR t f) o ∧ getR t o = getR (putR t f) o) := fun h => stays_other z h
    have SL : ∀ (_ : isAt t f.path = true), Hid ((putR t f).length = t.length) := fun h => stays_len z h
    have SB : ∀ (_ : isAt t f.path = false), Hid (dropR (putR t f) f.path = t) := fun h => stays_back z h
    have SS := Lib.hid (putFault_parts z).1.2.2
    rw [z, errV_zero]
    clear z
    generalize hx : putR t f = x at hr2 ST SO SL SB ⊢
    clear hx
    obtain ⟨xa, xcap, rfl, _, x2, _⟩ := rdv_slice hr2
    unfold maxLen at x2
    have b0 := hw.cellNever HB0.out
    have b1 := hw.cellNever HB1.out
    go_wp2_with fail
    refine (tree_get_any x f.path _ _ hr2 m (hw.cellNever hm)).mono ?_
    rintro e w3 ⟨r3, rfl, hc3, hr3⟩
    have hw := hw.trans hc3
    have hr2 := hr2.never hc3
    have hr3 := hr3.sub (O' := Never) (fun _ _ h => h.elim)
    rw [ST.out.1, errV_zero]
    rw [ST.out.2.1] at hr3
    have b0 := hc3.cellNever b0
    have b1 := hc3.cellNever b1
    clear hc3
    go_wp2_with fail
    refine (texts_any _ _ _ _ _ hr3 (hf.never hw)).mono ?_
    rintro e w4 ⟨rfl, hc4⟩
    have hw := hw.trans hc4
    have hr2 := hr2.never hc4
    have b0 := hc4.cellNever b0
    have b1 := hc4.cellNever b1
    rw [decide_eq_true rfl]
    clear hc4 hr3
    go_wp2_with fail
    refine (tree_check_any x _ _ hr2 m (hw.cellNever hm)).mono ?_
    rintro e w5 ⟨rfl, hc5⟩
    have hw := hw.trans hc5
    have hr2 := hr2.never hc5
    have b0 := hc5.cellNever b0
    have b1 := hc5.cellNever b1
    rw [ST.out.2.2.1, errV_zero]
    clear hc5
    go_upto_if 79 with fail
    go_cut [6, 13, 16, 17, 18, 19] from 79 (fun _ _ _ _ _ _ wx => Hid (Chg Never wA wx ∧ Rdv wx Never (.slice xa x.length xcap) x))
    case first =>
      go_wp2_with fail
      rotate_left
      · go_meet
        case rel => exact ⟨hw, hr2⟩
      · have h : (!(o.toList == f.path.toList)) = true := by assumption
        have ho : o ≠ f.path := fun e => by rw [e] at h; simp at h
        have SO := SO ho
        clear ho
        refine (tree_get_any t o _ _ (ht.never hw) m (hw.cellNever hm)).mono ?_
        rintro e w6 ⟨r6, rfl, hc6, hr6⟩
        have hw := hw.trans hc6
        have hr2 := hr2.never hc6
        have hr6 := hr6.sub (O' := Never) (fun _ _ h => h.elim)
        rw [SO.out.1]
        rw [SO.out.2] at hr6
        clear hc6
        go_wp2_with fail
        refine (tree_get_any x o _ _ hr2 m (hw.cellNever hm)).mono ?_
        rintro e w7 ⟨r7, rfl, hc7, hr7⟩
        have hw := hw.trans hc7
        have hr2 := hr2.never hc7
        have hr6 := hr6.never hc7
        have hr7 := hr7.sub (O' := Never) (fun _ _ h => h.elim)
        clear hc7
        go_wp2_with fail
        refine (texts_any _ _ _ _ _ hr6 hr7).mono ?_
        rintro e w8 ⟨rfl, hc8⟩
        have hw := hw.trans hc8
        have hr2 := hr2.never hc8
        rw [decide_eq_true rfl]
        clear hc8 hr6 hr7
        by_cases y : getFault x o = 0
        · rw [y, errV_zero]
          clear y
          go_wp2_with fail
          go_quiet (fail)
          go_wp2_with fail
          go_meet
          case rel => exact ⟨hw.drewN _, hr2.never ((Chg.refl Never w8).drewN _)⟩
        · rw [errV_pos y]
          clear y
          go_wp2_with fail
          go_quiet (fail)
          go_wp2_with fail
          go_meet
          case rel => exact ⟨hw.drewN _, hr2.never ((Chg.refl Never w8).drewN _)⟩
    case rest =>
      clear hw b0 b1 hr2 SO
      obtain ⟨hw, hr2⟩ := hcut.out
      have b0 := hw.cellNever HB0.out
      have b1 := hw.cellNever HB1.out
      go_wp2_with fail
      refine (tree_drop_any x f.path _ _ hr2 m (hw.cellNever hm)).mono ?_
      rintro e w9 ⟨r9, rfl, hc9, hr9⟩
      have hw := hw.trans hc9
      have hr9 := hr9.sub (O' := Never) (fun _ _ h => h.elim)
      have b0 := hc9.cellNever b0
      have b1 := hc9.cellNever b1
      rw [ST.out.1, errV_zero]
      clear hc9 hr2
      go_wp2_with fail
      refine (tree_get_any (dropR x f.path) f.path _ _ hr9 m (hw.cellNever hm)).mono ?_
      rintro e w10 ⟨r10, rfl, hc10, hr10⟩
      have hw := hw.trans hc10
      have hr9 := hr9.never hc10
      have b0 := hc10.cellNever b0
      have b1 := hc10.cellNever b1
      rw [ST.out.2.2.2]
      clear hc10 hr10
      go_wp2_with fail
      refine (error_any 4 4 _ (hw.cellNever hg)).mono ?_
      rintro e w11 ⟨rfl, hc11⟩
      have hw := hw.trans hc11
      have hr9 := hr9.never hc11
      have b0 := hc11.cellNever b0
      have b1 := hc11.cellNever b1
      rw [beq_self_eq_true]
      clear hc11
      go_wp2_with fail
      refine (refPlace_any t f.path _ _ (ht.never hw)).mono ?_
      rintro e w12 ⟨rfl, hc12⟩
      have hw := hw.trans hc12
      have hr9 := hr9.never hc12
      clear hc12 b0 b1
      by_cases hi : isAt t f.path = true
      · have SL := SL hi
        rw [placeI_is SS.out hi]
        clear hi SB
        have p0 : decide ((0 : Int) ≤ (posOf t f.path : Int)) = true := decide_eq_true (by omega)
        have l0 : ((x.length : Int) == (t.length : Int)) = true := by rw [SL.out]; simp
        clear SL
        go_wp2_with fail
        go_ret
        exact ⟨rfl, HAA.out.trans hw⟩
      · have hi := Bool.eq_false_iff.2 hi
        have SB := SB hi
        rw [placeI_not SS.out hi]
        clear hi SL
        rw [SB.out] at hr9
        go_wp2_with fail
        refine (trees_any _ _ _ _ _ hr9 (ht.never hw)).mono ?_
        rintro e w13 ⟨rfl, hc13⟩
        have hw := hw.trans hc13
        rw [decide_eq_true rfl]
        clear hc13 hr9
        go_wp2_with fail
        go_ret
        exact ⟨rfl, HAA.out.trans hw⟩
  · rw [errV_pos z]
    clear z hr2
    go_wp2_with fail
    go_ret
    exact ⟨rfl, HAA.out.trans hw⟩
end Go.Proofs.YtibeddcebefbjaaDoor
namespace Go.Proofs.YtibeddcebefbjaaDoor.lawTreeStays
open Go.ChangeShapes Go.WideShapes Go.ChangeAt Go.RowKit

set_option maxRecDepth 100000 in
theorem contract (H : Type) (enc : TypeId × Value → H) (W : World) (base : Nat) (args : Array Value) (ds gs : List (DataW H)) (before : List MemPlace)
    (hval : ∀ (j : Nat) t v, Tryd.f4.params[j]? = some t → args[j]? = some v → Value.okWide Tryd.prog W .any base t v)
    (hW : DataW.Whole enc Tryd.prog Tryd.f4.params.toList Rows.treeStaysSpec.vars false W args.toList ds gs before) (hk : Rows.uptoSmall H (ds ++ gs) = true) (hL : laidMetH Tryd.prog Rows.treeStaysUptoRow.laid W) (hS : W.ShapedOpen Tryd.prog) :
    Calls Tryd.prog 4 args W fun e W' => ∃ v, e = .returned v ∧ Rows.treeStaysSpec.post enc Tryd.prog Tryd.f4 false true false false W args v W' := by
  have hg := handle_of_laidTE hL
  obtain ⟨m, hm⟩ := maxlen_of hS
  have hW' := hW
  obtain ⟨p, q, hA0, hV, rfl, hfz, hnd⟩ := hW
  have hA : DataW.TrodAll enc Tryd.prog W 0 (fun _ => true) true Tryd.f4.params.toList args.toList ds p := hA0
  rw [Tryd.params4] at hA hval
  obtain ⟨v0, vs0, d0, ds0, p0, q0, hargs, rfl, rfl, h0, r0⟩ := trodAll_cons hA
  obtain ⟨v1, vs1, d1, ds1, p1, q1, rfl, rfl, rfl, h1, r1⟩ := trodAll_cons r0
  obtain ⟨v2, vs2, d2, ds2, p2, q2, rfl, rfl, rfl, h2, r2⟩ := trodAll_cons r1
  obtain ⟨rfl, rfl, rfl⟩ := trodAll_nil r2
  obtain rfl : args = #[v0, v1, v2] := by cases args; simp_all
  obtain ⟨a0, len0, cap0, rfl⟩ := okWide_slice Tryd.underlying34 (hval 0 34 v0 rfl rfl)
  obtain ⟨u0, k0⟩ := h0
  obtain ⟨x0, hx0, hb0⟩ := opens_files _ _ _ _ _ _ _ _ _ _ k0
  obtain ⟨x1, cs1, rfl, hx1, hb1⟩ := open_agg Tryd.underlying37 opens_afile (hval 1 37 v1 rfl rfl) h1
  obtain ⟨fv1, rfl, hp1, hv1⟩ := hx1
  obtain ⟨x2, rfl, rfl, rfl, wx2⟩ := Go.ChangeMaps.open_string Tryd.underlying9 (hval 2 9 v2 rfl rfl) h2
  have hbk := small_of hk
  simp only [List.cons_append, List.nil_append, Rows.uptoBulkAll, Rows.uptoBulk, Array.length_toList] at hbk
  have hx2 : x2.size ≤ 1048576 := by show x2.data.size ≤ _; omega
  refine (law_treeStays x0 x1 x2 _ _ W hx0 hv1 hp1 hx2 m hm hg).mono fun e W' he => ?_
  obtain ⟨he, hc⟩ := he
  subst he
  exact ⟨_, rfl, post_law hW' rfl rfl Tryd.underlying4 rfl laidOut (by decide +kernel) hc⟩

theorem reads (os : Os) {H : Type} (enc : TypeId × Value → H) : ∃ places, DataW.whole enc Tryd.prog ((laidWorldT os).forCall (fun _ _ => 0) ⟨#[], #[.slice none 0 0, .agg #[.string ⟨#[]⟩, .slice none 0 0], .string ⟨#[]⟩], []⟩).memory Tryd.f4.params.toList Rows.treeStaysSpec.vars false (#[.slice none 0 0, .agg #[.string ⟨#[]⟩, .slice none 0 0], .string ⟨#[]⟩] : Array Value).toList 8 = some ([.nil, .agg [.lit (.string []), .nil], .lit (.string [])], [], places) :=
  ⟨[], by kernel_rfl⟩
set_option maxRecDepth 100000 in
theorem liftedUpto (os : Os) (started : os.Started) (H : Type) (enc : TypeId × Value → H) (F : Stop.Interp) :
    ReturnsInHanded {} Tryd.checked os 4 .any ((Rows.OpenSpec.upto Rows.treeStaysSpec).preRow enc Tryd.prog Tryd.f4 Rows.treeStaysUptoRow.domain false Rows.treeStaysUptoRow.laid) (((Rows.OpenSpec.upto Rows.treeStaysSpec).at F).post enc Tryd.prog Tryd.f4 false true false false) := by
  obtain ⟨places, hx⟩ := reads os enc
  refine returnsInHanded_of_row (C := Tryd.checked) (s := Rows.OpenSpec.upto Rows.treeStaysSpec) own started (by kernel_rfl) Tryd.func4
    (witness_row_at (enc := enc) (C := Tryd.checked) false (laidWorldT os) #[.slice none 0 0, .agg #[.string ⟨#[]⟩, .slice none 0 0], .string ⟨#[]⟩] rfl (by kernel_rfl) (by kernel_rfl) (by kernel_rfl)
      (OpenSpec.preRow_of_cond 8 hx (by kernel_rfl) (fun k hk => by cases hk; kernel_rfl) (by kernel_rfl) (laidWorldTE_met os _))) ?_
  intro W base args ds gs before hval hW _ hcond _ hL hS _
  exact contract H enc W base args ds gs before hval hW (hcond _ rfl) hL hS

theorem saidUpto : Rows.TreeStaysUptoSaid :=
  OpenClaim.holds_of_cond 4 Tryd.f4 rfl rfl rfl rfl rfl rfl rfl ⟨rfl, rfl, rfl, rfl, rfl⟩ rfl rfl rfl rfl rfl (by kernel_rfl) Tryd.func4 (by kernel_rfl)
    (of_decide_eq_true (by kernel_rfl)) (by unfold Func.isWrapper; first | (rw [if_pos (by decide +kernel)]; kernel_rfl) | (rw [if_neg (by decide +kernel)]; exact ⟨rfl, rfl⟩))
    (fun os started H enc _ F => by rw [OpenClaim.pre_eq_preRow]; exact liftedUpto os started H enc F)

theorem plain (f : FuncId) (fn : Func) (hf : Tryd.pinned.checked.prog.funcNamed "handstitch/handstitchlaw2.TreeStays" = some f) (hfn : Tryd.pinned.checked.prog.funcs[f]? = some fn) :
    true = Tryd.pinned.checked.prog.looks [] ∧ ∀ (j : Nat) t, fn.params[j]? = some t → Tryd.pinned.checked.prog.wantsStandIn t = false := by
  obtain rfl : f = 4 := Option.some.inj ((show Tryd.prog.funcNamed "handstitch/handstitchlaw2.TreeStays" = some 4 by kernel_rfl).symm.trans hf) |>.symm
  obtain rfl : fn = Tryd.f4 := (Option.some.inj (Tryd.func4.symm.trans hfn)).symm
  refine ⟨by kernel_rfl, fun j t ht => ?_⟩
  rw [Tryd.params4] at ht
  have hm := Array.mem_of_getElem? ht
  simp only [List.mem_toArray, List.mem_cons, List.not_mem_nil, or_false] at hm
  clear ht
  repeat' (first | (rcases hm with rfl | hm) | subst hm)
  all_goals exact (show Tryd.prog.wantsStandIn _ = false by kernel_rfl)

theorem cardUpto : Rows.TreeStaysUptoCardSaid :=
  Claim7.holds_tied_plain_at .later [] _ _ _ _ saidUpto (fun _ h => by cases h) (by kernel_rfl) (fun _ h => by cases h) treeStaysUpto_row_tie rfl ⟨rfl, rfl⟩ (by kernel_rfl) rfl plain (by kernel_rfl)
end Go.Proofs.YtibeddcebefbjaaDoor.lawTreeStays
