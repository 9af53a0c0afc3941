/-
  THE WALK of tree.Put.
-/
import Derived.Test.YtpoammapjmddfaaDoorTreeG
namespace Go.Proofs.YtpoammapjmddfaaDoor
open Go.RowKit

theorem cells2_keepT {w0 w w' : World} {p q : Addr} {x y : Value} (h : Chg Never w0 w ∧ w.cell? p = some x ∧ w.cell? q = some y) (hc : Chg Never w w') : Chg Never w0 w' ∧ w'.cell? p = some x ∧ w'.cell? q = some y :=
  ⟨h.1.trans hc, hc.cellNever h.2.1, hc.cellNever h.2.2⟩
set_option maxHeartbeats 4000000 in
set_option maxRecDepth 100000 in
theorem put_is (t : List File) (f : File) (v fv : Value) (w : World) (h : Rdv w Never v t) (hf : Rdv w Never fv f.lines) (hp : f.path.size ≤ maxLen) (m : Int) (hm : w.cell? ⟨1, 0, none⟩ = some (.int .i64 m)) (z : atFault t f.path = 0) (zl : linesFault f.lines = 0) (zi : isAt t f.path = true) :
    Calls Tryd.prog 34 #[v, .agg #[.string f.path, fv]] w fun e w' => ∃ r, e = .returned (.tuple #[r, errV (putFault t f)]) ∧ Chg Never w w' ∧ Rdv w' (Old w.heap.size) r (putR t f) := by
  obtain ⟨a, cap, rfl, h1, h2, _⟩ := rdv_slice h
  obtain ⟨fa, fcap, rfl, _, _, _⟩ := rdv_slice hf
  unfold maxLen at h2
  have hA : Chg Never w (w.alloc (.cells #[.string f.path, .slice fa f.lines.length fcap] 50)) := (Chg.refl Never w).alloc _
  have b0 : (w.alloc (.cells #[.string f.path, .slice fa f.lines.length fcap] 50)).cell? ⟨w.heap.size, 0, none⟩ = some (.string f.path) := by simp only [World.cell?]; rw [heap_alloc_new]; rfl
  have b1 : (w.alloc (.cells #[.string f.path, .slice fa f.lines.length fcap] 50)).cell? ⟨w.heap.size, 1, none⟩ = some (.slice fa f.lines.length fcap) := by simp only [World.cell?]; rw [heap_alloc_new]; rfl
  have Z := Lib.hid z
  have hz8 := (atFault_zero z).1
  have hl8 := (treeFault_zero hz8).1
  have HTL := Lib.hid (tree_lines hz8)
  have ZL := Lib.hid zl
  have hfl := linesFault_len zl
  have hpos := posOf_le t f.path
  clear hz8
  have ZI := Lib.hid zi
  have HF : Hid (putFault t f = 0) := by unfold Hid putFault; rw [if_pos z, if_pos zl, if_neg (by rw [zi]; simp)]
  have HR : Hid (putR t f = t.take (posOf t f.path) ++ f :: t.drop (posOf t f.path + 1)) := by unfold Hid putR; rw [if_pos HF.out]; unfold putAt; rw [if_pos zi]
  obtain ⟨x, hx, _⟩ := isAt_get zi
  have hlt := (List.getElem?_eq_some_iff.1 hx).1
  clear z zi zl hx
  go_enter Tryd.func34, Tryd.ntmps34
  go_wp2_with fail
  generalize w.alloc (.cells #[.string f.path, .slice fa f.lines.length fcap] 50) = wA at hA b0 b1 ⊢
  generalize hBe : w.heap.size = B at b0 b1 ⊢
  refine (tree_at_any t f.path _ _ (h.never hA) m (hA.cellNever hm)).mono ?_
  rintro e w2 ⟨rfl, hc2⟩
  have b0 := hc2.cellNever b0
  have b1 := hc2.cellNever b1
  have hw := hA.trans hc2
  clear hA hc2
  rw [show atPos t f.path = posOf t f.path from if_pos Z.out, show atIs t f.path = isAt t f.path from if_pos Z.out, Z.out, ZI.out, errV_zero]
  generalize posOf t f.path = k at hlt HR hpos ⊢
  obtain ⟨sb1, y0, y1, hrunH, hsub1⟩ := slice_gen (P := Tryd.prog) (t := 48) (by kernel_rfl) size_file h 0 k (Nat.zero_le _) (by omega)
  have hrunH := fun (wx : World) => hrunH k wx rfl rfl
  clear y0 y1
  rw [Nat.sub_zero, Nat.sub_zero] at hrunH hsub1
  rw [List.drop_zero] at hsub1
  obtain ⟨sb2, y0, hrunL, y1, hsub2⟩ := slice_gen (P := Tryd.prog) (t := 48) (by kernel_rfl) size_file h k t.length (by omega) (Nat.le_refl _)
  have hrunL := fun (wx : World) => hrunL k wx rfl rfl
  clear y0 y1
  rw [List.take_of_length_le (by rw [List.length_drop]; omega)] at hsub2
  obtain ⟨sb3, y0, hrunM, y1, hsub3⟩ := slice_gen (P := Tryd.prog) (t := 48) (by kernel_rfl) size_file h (k + 1) t.length (by omega) (Nat.le_refl _)
  have hrunM := fun (wx : World) => hrunM ((k : Int) + 1) wx (by push_cast; rfl) rfl
  clear y0 y1
  rw [List.take_of_length_le (by rw [List.length_drop]; omega)] at hsub3
  have E1 : Hid ((t.take k).length = k) := by rw [Hid, List.length_take]; omega
  have HFL : Hid ([t.take k, [f], t.drop (k + 1)].flatten = t.take k ++ f :: t.drop (k + 1)) := by unfold Hid; simp
  have hrl : (t.drop (k + 1)).length ≤ 8 := by rw [List.length_drop]; omega
  have hbl : [t.take k, [f], t.drop (k + 1)].flatten.length ≤ 1000000 := by rw [HFL.out, List.length_append, List.length_cons, E1.out]; omega
  have hda : (t.take k ++ f :: t.drop (k + 1)).length ≤ 1000000 := by rw [← HFL.out]; exact hbl
  have HDL : Hid (∀ x ∈ t.take k ++ f :: t.drop (k + 1), x.lines.length ≤ 1000000) := fun x hx => by
    rcases List.mem_append.1 hx with hx | hx
    · have := HTL.out x (List.mem_of_mem_take hx); omega
    · rcases List.mem_cons.1 hx with rfl | hx
      · omega
      · have := HTL.out x (List.mem_of_mem_drop hx); omega
  go_wp2_with fail
  refine (check_any f.lines _ _ (hf.never hw)).mono ?_
  rintro e w3 ⟨rfl, hw3⟩
  have hfr : Rdv (w2.alloc (.cells #[.string f.path, .slice fa f.lines.length fcap] 50)) Never (.slice (some ⟨w2.heap.size, 0, none⟩) 1 1) [f] := rdv_lit (cs := [.string f.path, .slice fa f.lines.length fcap]) (heap_alloc_new w2 _) rfl (by simp) ⟨⟨_, rfl, hp, hf.never (hw.alloc _)⟩, trivial⟩
  rw [ZL.out, errV_zero, ← hw3]
  clear hw3
  go_wp2_with fail
  refine wp_region_held_drew (S := fun w' => Chg Never w w' ∧ w'.cell? ⟨B, 0, none⟩ = some (.string f.path) ∧ w'.cell? ⟨B, 1, none⟩ = some (.slice fa f.lines.length fcap)) (by kernel_rfl) ⟨hw.drew, b0, b1⟩ (fun hH => ?_)
  refine' wpAnyH_take (i := 0) ?hi0 (by kernel_rfl) (by kernel_rfl) (by kernel_rfl) ?hQ0 (Or.inl ⟨?hw0, ?hy0⟩) (by assumption) ?_
  case hi0 => (simp only [List.getElem?_toArray, List.getElem?_cons_succ, List.getElem?_cons_zero]; rfl)
  case hQ0 => exact fun _ _ _ h => h
  case hw0 => rfl
  case hy0 => (intro w' hSw; (try dsimp only at hSw); go_simp; all_goals with_reducible rfl)
  try simp only [Act.put, List.setIfInBounds_toArray, List.set_cons_zero, List.set_cons_succ]
  refine' wpAnyH_take (i := 1) ?hi1 (by kernel_rfl) (by kernel_rfl) (by kernel_rfl) ?hQ1 (Or.inl ⟨?hw1, ?hy1⟩) (by assumption) ?_
  case hi1 => (simp only [List.getElem?_toArray, List.getElem?_cons_succ, List.getElem?_cons_zero]; rfl)
  case hQ1 => exact fun _ _ _ h => h
  case hw1 => rfl
  case hy1 => (intro w' hSw; (try dsimp only at hSw); go_simp; all_goals with_reducible rfl)
  try simp only [Act.put, List.setIfInBounds_toArray, List.set_cons_zero, List.set_cons_succ]
  refine' wpAnyH_take (i := 2) ?hi2 (by kernel_rfl) (by kernel_rfl) (by kernel_rfl) ?hQ2 (Or.inl ⟨?hw2, ?hy2⟩) (by assumption) ?_
  case hi2 => (simp only [List.getElem?_toArray, List.getElem?_cons_succ, List.getElem?_cons_zero]; rfl)
  case hQ2 => exact fun _ _ _ h => h
  case hw2 => rfl
  case hy2 => (intro w' hSw; (try dsimp only at hSw); go_simp; all_goals with_reducible rfl)
  try simp only [Act.put, List.setIfInBounds_toArray, List.set_cons_zero, List.set_cons_succ]
  refine' wpAnyH_take (i := 3) ?hi3 (by kernel_rfl) (by kernel_rfl) (by kernel_rfl) ?hQ3 (Or.inl ⟨?hw3, ?hy3⟩) (by assumption) ?_
  case hi3 => (simp only [List.getElem?_toArray, List.getElem?_cons_succ, List.getElem?_cons_zero]; rfl)
  case hQ3 => exact fun _ _ _ h => h
  case hw3 => rfl
  case hy3 => (intro w' hSw; (try dsimp only at hSw); go_simp; all_goals with_reducible rfl)
  try simp only [Act.put, List.setIfInBounds_toArray, List.set_cons_zero, List.set_cons_succ]
  refine' wpAnyH_take (i := 5) ?hi5 (by kernel_rfl) (by kernel_rfl) (by kernel_rfl) ?hQ5 (Or.inl ⟨?hw5, ?hy5⟩) (by assumption) ?_
  case hi5 => (simp only [List.getElem?_toArray, List.getElem?_cons_succ, List.getElem?_cons_zero]; rfl)
  case hQ5 => exact fun _ _ _ h => h
  case hw5 => rfl
  case hy5 => (intro w' hSw; (try dsimp only at hSw); go_simp; all_goals with_reducible rfl)
  try simp only [Act.put, List.setIfInBounds_toArray, List.set_cons_zero, List.set_cons_succ]
  refine wpAnyH_ready (rs := [4]) (by kernel_rfl) (by simp) ?_
  refine AllReadyH.cons rfl (fun K hK => ?_) AllReadyH.nil
  go_simp
  refine hK.out _ _ ⟨hH.1.alloc _, ((Chg.refl Never _).alloc _).cellNever hH.2.1, ((Chg.refl Never _).alloc _).cellNever hH.2.2⟩ (fun hHn => ?_)
  clear hK K
  try simp only [Act.put, List.setIfInBounds_toArray, List.set_cons_zero, List.set_cons_succ]
  clear hH
  have hH := hHn
  clear hHn
  refine wpAnyH_ready (rs := [6]) (by kernel_rfl) (by simp) ?_
  refine AllReadyH.cons rfl (fun K hK => ?_) AllReadyH.nil
  go_simp
  refine hK.out _ _ ⟨hH.1.alloc _, ((Chg.refl Never _).alloc _).cellNever hH.2.1, ((Chg.refl Never _).alloc _).cellNever hH.2.2⟩ (fun hHn => ?_)
  clear hK K
  try simp only [Act.put, List.setIfInBounds_toArray, List.set_cons_zero, List.set_cons_succ]
  clear hH
  have hH := hHn
  clear hHn
  refine wpAnyH_ready (rs := [7]) (by kernel_rfl) (by simp) ?_
  refine AllReadyH.cons rfl (fun K hK => ?_) AllReadyH.nil
  go_simp
  (go_at_call 64; refine (concatf_any [t.take k, [f], t.drop (k + 1)] _ _ (rdv_lit (cs := [.slice sb1 k cap, .slice (some ⟨w2.heap.size, 0, none⟩) 1 1, .slice sb3 (t.length - (k + 1)) (cap - (k + 1))]) (by have e := heap_alloc_new (w2.alloc (.cells #[.string f.path, .slice fa f.lines.length fcap] 50)) (.cells #[.slice sb1 k cap, .slice (some ⟨w2.heap.size, 0, none⟩) 1 1, .slice sb3 (t.length - (k + 1)) (cap - (k + 1))] 48); rw [World.size_alloc] at e; exact e) rfl (by simp) ⟨(hsub1.never hH.1), (hfr.never ((Chg.refl Never _).alloc _).drew), (hsub3.never hH.1), trivial⟩) hbl).mono ?_; rintro e wq ⟨rq, rfl, hnq⟩; rw [HFL.out] at hnq; have hrq := hnq.own.rdv.sub (O' := Never) (fun _ _ h => h.elim); obtain ⟨qa, qn, qc, rfl⟩ := own_isSlice hnq.own; have hS2 := cells2_keepT hH hnq.chg; clear hH hnq)
  try go_wp2_with fail
  refine hK.out _ _ ?_ (fun hH => ?_)
  · assumption
  clear hK K
  try simp only [Act.put, List.setIfInBounds_toArray, List.set_cons_zero, List.set_cons_succ]
  refine wpAnyH_ready (rs := [8]) (by kernel_rfl) (by simp) ?_
  refine AllReadyH.cons rfl (fun K hK => ?_) AllReadyH.nil
  go_simp
  (go_at_call 63; refine (tree_copy_any (t.take k ++ f :: t.drop (k + 1)) _ _ hrq hda HDL.out).mono ?_; rintro e wq2 ⟨rq2, rfl, hcq2, hown2⟩; have hsz2 := hH.1.size; have hr2 := hown2.rdv.sub (O' := Old w.heap.size) (fun j _ hj => Nat.lt_of_lt_of_le hj hsz2); obtain ⟨ra, rn, rc, rfl⟩ := own_isSlice hown2; have hS3 := cells2_keepT hH hcq2; clear hH hcq2 hown2)
  try go_wp2_with fail
  refine hK.out _ _ ?_ (fun hH => ?_)
  · assumption
  clear hK K
  try simp only [Act.put, List.setIfInBounds_toArray, List.set_cons_zero, List.set_cons_succ]
  refine' wpAnyH_take (i := 9) ?hi9 (by kernel_rfl) (by kernel_rfl) (by kernel_rfl) ?hQ9 (Or.inl ⟨?hw9, ?hy9⟩) (by assumption) ?_
  case hi9 => (simp only [List.getElem?_toArray, List.getElem?_cons_succ, List.getElem?_cons_zero]; rfl)
  case hQ9 => exact fun _ _ _ h => h
  case hw9 => rfl
  case hy9 => (intro w' hSw; (try dsimp only at hSw); go_simp; all_goals with_reducible rfl)
  try simp only [Act.put, List.setIfInBounds_toArray, List.set_cons_zero, List.set_cons_succ]
  refine' wpAnyH_take (i := 10) ?hi10 (by kernel_rfl) (by kernel_rfl) (by kernel_rfl) ?hQ10 (Or.inl ⟨?hw10, ?hy10⟩) (by assumption) ?_
  case hi10 => (simp only [List.getElem?_toArray, List.getElem?_cons_succ, List.getElem?_cons_zero]; rfl)
  case hQ10 => exact fun _ _ _ h => h
  case hw10 => rfl
  case hy10 => (intro w' hSw; (try dsimp only at hSw); go_simp; all_goals with_reducible rfl)
  try simp only [Act.put, List.setIfInBounds_toArray, List.set_cons_zero, List.set_cons_succ]
  refine wpAnyH_done (by kernel_rfl) ?_ _
  go_wp2_with fail
  go_ret2
  exact ⟨_, by rw [HF.out]; rfl, hH.1, by rw [HR.out]; exact hr2⟩
set_option maxHeartbeats 4000000 in
set_option maxRecDepth 100000 in
theorem put_new (t : List File) (f : File) (v fv : Value) (w : World) (h : Rdv w Never v t) (hf : Rdv w Never fv f.lines) (hp : f.path.size ≤ maxLen) (m : Int) (hm : w.cell? ⟨1, 0, none⟩ = some (.int .i64 m)) (z : atFault t f.path = 0) (zl : linesFault f.lines = 0) (zi : isAt t f.path = false) :
    Calls Tryd.prog 34 #[v, .agg #[.string f.path, fv]] w fun e w' => ∃ r, e = .returned (.tuple #[r, errV (putFault t f)]) ∧ Chg Never w w' ∧ Rdv w' (Old w.heap.size) r (putR t f) := by
  obtain ⟨a, cap, rfl, h1, h2, _⟩ := rdv_slice h
  obtain ⟨fa, fcap, rfl, _, _, _⟩ := rdv_slice hf
  unfold maxLen at h2
  have hA : Chg Never w (w.alloc (.cells #[.string f.path, .slice fa f.lines.length fcap] 50)) := (Chg.refl Never w).alloc _
  have b0 : (w.alloc (.cells #[.string f.path, .slice fa f.lines.length fcap] 50)).cell? ⟨w.heap.size, 0, none⟩ = some (.string f.path) := by simp only [World.cell?]; rw [heap_alloc_new]; rfl
  have b1 : (w.alloc (.cells #[.string f.path, .slice fa f.lines.length fcap] 50)).cell? ⟨w.heap.size, 1, none⟩ = some (.slice fa f.lines.length fcap) := by simp only [World.cell?]; rw [heap_alloc_new]; rfl
  have Z := Lib.hid z
  have hz8 := (atFault_zero z).1
  have hl8 := (treeFault_zero hz8).1
  have HTL := Lib.hid (tree_lines hz8)
  have ZL := Lib.hid zl
  have hfl := linesFault_len zl
  have hpos := posOf_le t f.path
  clear hz8
  have ZI := Lib.hid zi
  by_cases h8 : t.length = 8
  · have HF : Hid (putFault t f = 3) := by unfold Hid putFault; rw [if_pos z, if_pos zl, if_pos ⟨zi, h8⟩]
    have HR : Hid (putR t f = []) := if_neg (by rw [HF.out]; decide)
    have t8 : ((t.length : Int) == 8) = true := by rw [h8]; rfl
    clear z zi zl h8
    go_enter Tryd.func34, Tryd.ntmps34
    go_wp2_with fail
    generalize w.alloc (.cells #[.string f.path, .slice fa f.lines.length fcap] 50) = wA at hA b0 b1 ⊢
    generalize hBe : w.heap.size = B at b0 b1 ⊢
    refine (tree_at_any t f.path _ _ (h.never hA) m (hA.cellNever hm)).mono ?_
    rintro e w2 ⟨rfl, hc2⟩
    have b0 := hc2.cellNever b0
    have b1 := hc2.cellNever b1
    have hw := hA.trans hc2
    clear hA hc2
    rw [show atPos t f.path = posOf t f.path from if_pos Z.out, show atIs t f.path = isAt t f.path from if_pos Z.out, Z.out, ZI.out, errV_zero]
    generalize posOf t f.path = k at HR hpos ⊢
    obtain ⟨sb1, y0, y1, hrunH, hsub1⟩ := slice_gen (P := Tryd.prog) (t := 48) (by kernel_rfl) size_file h 0 k (Nat.zero_le _) (by omega)
    have hrunH := fun (wx : World) => hrunH k wx rfl rfl
    clear y0 y1
    rw [Nat.sub_zero, Nat.sub_zero] at hrunH hsub1
    rw [List.drop_zero] at hsub1
    obtain ⟨sb2, y0, hrunL, y1, hsub2⟩ := slice_gen (P := Tryd.prog) (t := 48) (by kernel_rfl) size_file h k t.length (by omega) (Nat.le_refl _)
    have hrunL := fun (wx : World) => hrunL k wx rfl rfl
    clear y0 y1
    rw [List.take_of_length_le (by rw [List.length_drop]; omega)] at hsub2
    go_wp2_with fail
    refine (check_any f.lines _ _ (hf.never hw)).mono ?_
    rintro e w3 ⟨rfl, rfl⟩
    rw [ZL.out, errV_zero]
    go_wp2_with fail
    go_ret2
    exact ⟨_, by rw [HF.out]; rfl, hw, by rw [HR.out]; exact rdv_nil _ _⟩
  · have HF : Hid (putFault t f = 0) := by unfold Hid putFault; rw [if_pos z, if_pos zl, if_neg (fun hh => h8 hh.2)]
    have HR : Hid (putR t f = t.take (posOf t f.path) ++ f :: t.drop (posOf t f.path)) := by unfold Hid putR; rw [if_pos HF.out]; unfold putAt; rw [if_neg (by rw [zi]; decide)]
    have t8 : ((t.length : Int) == 8) = false := by simp; omega
    clear z zi zl h8
    go_enter Tryd.func34, Tryd.ntmps34
    go_wp2_with fail
    generalize w.alloc (.cells #[.string f.path, .slice fa f.lines.length fcap] 50) = wA at hA b0 b1 ⊢
    generalize hBe : w.heap.size = B at b0 b1 ⊢
    refine (tree_at_any t f.path _ _ (h.never hA) m (hA.cellNever hm)).mono ?_
    rintro e w2 ⟨rfl, hc2⟩
    have b0 := hc2.cellNever b0
    have b1 := hc2.cellNever b1
    have hw := hA.trans hc2
    clear hA hc2
    rw [show atPos t f.path = posOf t f.path from if_pos Z.out, show atIs t f.path = isAt t f.path from if_pos Z.out, Z.out, ZI.out, errV_zero]
    generalize posOf t f.path = k at HR hpos ⊢
    obtain ⟨sb1, y0, y1, hrunH, hsub1⟩ := slice_gen (P := Tryd.prog) (t := 48) (by kernel_rfl) size_file h 0 k (Nat.zero_le _) (by omega)
    have hrunH := fun (wx : World) => hrunH k wx rfl rfl
    clear y0 y1
    rw [Nat.sub_zero, Nat.sub_zero] at hrunH hsub1
    rw [List.drop_zero] at hsub1
    obtain ⟨sb2, y0, hrunL, y1, hsub2⟩ := slice_gen (P := Tryd.prog) (t := 48) (by kernel_rfl) size_file h k t.length (by omega) (Nat.le_refl _)
    have hrunL := fun (wx : World) => hrunL k wx rfl rfl
    clear y0 y1
    rw [List.take_of_length_le (by rw [List.length_drop]; omega)] at hsub2
    have E1 : Hid ((t.take k).length = k) := by rw [Hid, List.length_take]; omega
    have HFL : Hid ([t.take k, [f], t.drop k].flatten = t.take k ++ f :: t.drop k) := by unfold Hid; simp
    have hrl : (t.drop k).length ≤ 8 := by rw [List.length_drop]; omega
    have hbl : [t.take k, [f], t.drop k].flatten.length ≤ 1000000 := by rw [HFL.out, List.length_append, List.length_cons, E1.out]; omega
    have hda : (t.take k ++ f :: t.drop k).length ≤ 1000000 := by rw [← HFL.out]; exact hbl
    have HDL : Hid (∀ x ∈ t.take k ++ f :: t.drop k, x.lines.length ≤ 1000000) := fun x hx => by
      rcases List.mem_append.1 hx with hx | hx
      · have := HTL.out x (List.mem_of_mem_take hx); omega
      · rcases List.mem_cons.1 hx with rfl | hx
        · omega
        · have := HTL.out x (List.mem_of_mem_drop hx); omega
    go_wp2_with fail
    refine (check_any f.lines _ _ (hf.never hw)).mono ?_
    rintro e w3 ⟨rfl, hw3⟩
    have hfr : Rdv (w2.alloc (.cells #[.string f.path, .slice fa f.lines.length fcap] 50)) Never (.slice (some ⟨w2.heap.size, 0, none⟩) 1 1) [f] := rdv_lit (cs := [.string f.path, .slice fa f.lines.length fcap]) (heap_alloc_new w2 _) rfl (by simp) ⟨⟨_, rfl, hp, hf.never (hw.alloc _)⟩, trivial⟩
    rw [ZL.out, errV_zero, ← hw3]
    clear hw3
    go_wp2_with fail
    refine wp_region_held_drew (S := fun w' => Chg Never w w' ∧ w'.cell? ⟨B, 0, none⟩ = some (.string f.path) ∧ w'.cell? ⟨B, 1, none⟩ = some (.slice fa f.lines.length fcap)) (by kernel_rfl) ⟨hw.drew, b0, b1⟩ (fun hH => ?_)
    refine' wpAnyH_take (i := 0) ?hi0 (by kernel_rfl) (by kernel_rfl) (by kernel_rfl) ?hQ0 (Or.inl ⟨?hw0, ?hy0⟩) (by assumption) ?_
    case hi0 => (simp only [List.getElem?_toArray, List.getElem?_cons_succ, List.getElem?_cons_zero]; rfl)
    case hQ0 => exact fun _ _ _ h => h
    case hw0 => rfl
    case hy0 => (intro w' hSw; (try dsimp only at hSw); go_simp; all_goals with_reducible rfl)
    try simp only [Act.put, List.setIfInBounds_toArray, List.set_cons_zero, List.set_cons_succ]
    refine' wpAnyH_take (i := 1) ?hi1 (by kernel_rfl) (by kernel_rfl) (by kernel_rfl) ?hQ1 (Or.inl ⟨?hw1, ?hy1⟩) (by assumption) ?_
    case hi1 => (simp only [List.getElem?_toArray, List.getElem?_cons_succ, List.getElem?_cons_zero]; rfl)
    case hQ1 => exact fun _ _ _ h => h
    case hw1 => rfl
    case hy1 => (intro w' hSw; (try dsimp only at hSw); go_simp; all_goals with_reducible rfl)
    try simp only [Act.put, List.setIfInBounds_toArray, List.set_cons_zero, List.set_cons_succ]
    refine' wpAnyH_take (i := 2) ?hi2 (by kernel_rfl) (by kernel_rfl) (by kernel_rfl) ?hQ2 (Or.inl ⟨?hw2, ?hy2⟩) (by assumption) ?_
    case hi2 => (simp only [List.getElem?_toArray, List.getElem?_cons_succ, List.getElem?_cons_zero]; rfl)
    case hQ2 => exact fun _ _ _ h => h
    case hw2 => rfl
    case hy2 => (intro w' hSw; (try dsimp only at hSw); go_simp; all_goals with_reducible rfl)
    try simp only [Act.put, List.setIfInBounds_toArray, List.set_cons_zero, List.set_cons_succ]
    refine' wpAnyH_take (i := 3) ?hi3 (by kernel_rfl) (by kernel_rfl) (by kernel_rfl) ?hQ3 (Or.inl ⟨?hw3, ?hy3⟩) (by assumption) ?_
    case hi3 => (simp only [List.getElem?_toArray, List.getElem?_cons_succ, List.getElem?_cons_zero]; rfl)
    case hQ3 => exact fun _ _ _ h => h
    case hw3 => rfl
    case hy3 => (intro w' hSw; (try dsimp only at hSw); go_simp; all_goals with_reducible rfl)
    try simp only [Act.put, List.setIfInBounds_toArray, List.set_cons_zero, List.set_cons_succ]
    refine' wpAnyH_take (i := 5) ?hi5 (by kernel_rfl) (by kernel_rfl) (by kernel_rfl) ?hQ5 (Or.inl ⟨?hw5, ?hy5⟩) (by assumption) ?_
    case hi5 => (simp only [List.getElem?_toArray, List.getElem?_cons_succ, List.getElem?_cons_zero]; rfl)
    case hQ5 => exact fun _ _ _ h => h
    case hw5 => rfl
    case hy5 => (intro w' hSw; (try dsimp only at hSw); go_simp; all_goals with_reducible rfl)
    try simp only [Act.put, List.setIfInBounds_toArray, List.set_cons_zero, List.set_cons_succ]
    refine wpAnyH_ready (rs := [4]) (by kernel_rfl) (by simp) ?_
    refine AllReadyH.cons rfl (fun K hK => ?_) AllReadyH.nil
    go_simp
    refine hK.out _ _ ⟨hH.1.alloc _, ((Chg.refl Never _).alloc _).cellNever hH.2.1, ((Chg.refl Never _).alloc _).cellNever hH.2.2⟩ (fun hHn => ?_)
    clear hK K
    try simp only [Act.put, List.setIfInBounds_toArray, List.set_cons_zero, List.set_cons_succ]
    clear hH
    have hH := hHn
    clear hHn
    refine wpAnyH_ready (rs := [6]) (by kernel_rfl) (by simp) ?_
    refine AllReadyH.cons rfl (fun K hK => ?_) AllReadyH.nil
    go_simp
    refine hK.out _ _ ⟨hH.1.alloc _, ((Chg.refl Never _).alloc _).cellNever hH.2.1, ((Chg.refl Never _).alloc _).cellNever hH.2.2⟩ (fun hHn => ?_)
    clear hK K
    try simp only [Act.put, List.setIfInBounds_toArray, List.set_cons_zero, List.set_cons_succ]
    clear hH
    have hH := hHn
    clear hHn
    refine wpAnyH_ready (rs := [7]) (by kernel_rfl) (by simp) ?_
    refine AllReadyH.cons rfl (fun K hK => ?_) AllReadyH.nil
    go_simp
    (go_at_call 64; refine (concatf_any [t.take k, [f], t.drop k] _ _ (rdv_lit (cs := [.slice sb1 k cap, .slice (some ⟨w2.heap.size, 0, none⟩) 1 1, .slice sb2 (t.length - k) (cap - k)]) (by have e := heap_alloc_new (w2.alloc (.cells #[.string f.path, .slice fa f.lines.length fcap] 50)) (.cells #[.slice sb1 k cap, .slice (some ⟨w2.heap.size, 0, none⟩) 1 1, .slice sb2 (t.length - k) (cap - k)] 48); rw [World.size_alloc] at e; exact e) rfl (by simp) ⟨(hsub1.never hH.1), (hfr.never ((Chg.refl Never _).alloc _).drew), (hsub2.never hH.1), trivial⟩) hbl).mono ?_; rintro e wq ⟨rq, rfl, hnq⟩; rw [HFL.out] at hnq; have hrq := hnq.own.rdv.sub (O' := Never) (fun _ _ h => h.elim); obtain ⟨qa, qn, qc, rfl⟩ := own_isSlice hnq.own; have hS2 := cells2_keepT hH hnq.chg; clear hH hnq)
    try go_wp2_with fail
    refine hK.out _ _ ?_ (fun hH => ?_)
    · assumption
    clear hK K
    try simp only [Act.put, List.setIfInBounds_toArray, List.set_cons_zero, List.set_cons_succ]
    refine wpAnyH_ready (rs := [8]) (by kernel_rfl) (by simp) ?_
    refine AllReadyH.cons rfl (fun K hK => ?_) AllReadyH.nil
    go_simp
    (go_at_call 63; refine (tree_copy_any (t.take k ++ f :: t.drop k) _ _ hrq hda HDL.out).mono ?_; rintro e wq2 ⟨rq2, rfl, hcq2, hown2⟩; have hsz2 := hH.1.size; have hr2 := hown2.rdv.sub (O' := Old w.heap.size) (fun j _ hj => Nat.lt_of_lt_of_le hj hsz2); obtain ⟨ra, rn, rc, rfl⟩ := own_isSlice hown2; have hS3 := cells2_keepT hH hcq2; clear hH hcq2 hown2)
    try go_wp2_with fail
    refine hK.out _ _ ?_ (fun hH => ?_)
    · assumption
    clear hK K
    try simp only [Act.put, List.setIfInBounds_toArray, List.set_cons_zero, List.set_cons_succ]
    refine' wpAnyH_take (i := 9) ?hi9 (by kernel_rfl) (by kernel_rfl) (by kernel_rfl) ?hQ9 (Or.inl ⟨?hw9, ?hy9⟩) (by assumption) ?_
    case hi9 => (simp only [List.getElem?_toArray, List.getElem?_cons_succ, List.getElem?_cons_zero]; rfl)
    case hQ9 => exact fun _ _ _ h => h
    case hw9 => rfl
    case hy9 => (intro w' hSw; (try dsimp only at hSw); go_simp; all_goals with_reducible rfl)
    try simp only [Act.put, List.setIfInBounds_toArray, List.set_cons_zero, List.set_cons_succ]
    refine' wpAnyH_take (i := 10) ?hi10 (by kernel_rfl) (by kernel_rfl) (by kernel_rfl) ?hQ10 (Or.inl ⟨?hw10, ?hy10⟩) (by assumption) ?_
    case hi10 => (simp only [List.getElem?_toArray, List.getElem?_cons_succ, List.getElem?_cons_zero]; rfl)
    case hQ10 => exact fun _ _ _ h => h
    case hw10 => rfl
    case hy10 => (intro w' hSw; (try dsimp only at hSw); go_simp; all_goals with_reducible rfl)
    try simp only [Act.put, List.setIfInBounds_toArray, List.set_cons_zero, List.set_cons_succ]
    refine wpAnyH_done (by kernel_rfl) ?_ _
    go_wp2_with fail
    go_ret2
    exact ⟨_, by rw [HF.out]; rfl, hH.1, by rw [HR.out]; exact hr2⟩
set_option maxHeartbeats 4000000 in
set_option maxRecDepth 100000 in
theorem tree_put_any (t : List File) (f : File) (v fv : Value) (w : World) (h : Rdv w Never v t) (hf : Rdv w Never fv f.lines) (hp : f.path.size ≤ maxLen) (m : Int) (hm : w.cell? ⟨1, 0, none⟩ = some (.int .i64 m)) :
    Calls Tryd.prog 34 #[v, .agg #[.string f.path, fv]] w fun e w' => ∃ r, e = .returned (.tuple #[r, errV (putFault t f)]) ∧ Chg Never w w' ∧ Rdv w' (Old w.heap.size) r (putR t f) := by
  by_cases z : atFault t f.path = 0
  · by_cases zl : linesFault f.lines = 0
    · cases zi : isAt t f.path with
      | true => exact put_is t f v fv w h hf hp m hm z zl zi
      | false => exact put_new t f v fv w h hf hp m hm z zl zi
    · have Z := Lib.hid z
      obtain ⟨a, cap, rfl, h1, h2, _⟩ := rdv_slice h
      obtain ⟨fa, fcap, rfl, _, _, _⟩ := rdv_slice hf
      unfold maxLen at h2
      have hA : Chg Never w (w.alloc (.cells #[.string f.path, .slice fa f.lines.length fcap] 50)) := (Chg.refl Never w).alloc _
      have b0 : (w.alloc (.cells #[.string f.path, .slice fa f.lines.length fcap] 50)).cell? ⟨w.heap.size, 0, none⟩ = some (.string f.path) := by simp only [World.cell?]; rw [heap_alloc_new]; rfl
      have b1 : (w.alloc (.cells #[.string f.path, .slice fa f.lines.length fcap] 50)).cell? ⟨w.heap.size, 1, none⟩ = some (.slice fa f.lines.length fcap) := by simp only [World.cell?]; rw [heap_alloc_new]; rfl
      have HF : Hid (putFault t f = linesFault f.lines) := by unfold Hid putFault; rw [if_pos z, if_neg zl]
      have HR : Hid (putR t f = []) := if_neg (by rw [HF.out]; exact zl)
      have ZL := Lib.hid zl
      clear z zl
      go_enter Tryd.func34, Tryd.ntmps34
      go_wp2_with fail
      generalize w.alloc (.cells #[.string f.path, .slice fa f.lines.length fcap] 50) = wA at hA b0 b1 ⊢
      generalize hBe : w.heap.size = B at b0 b1 ⊢
      refine (tree_at_any t f.path _ _ (h.never hA) m (hA.cellNever hm)).mono ?_
      rintro e w2 ⟨rfl, hc2⟩
      have b0 := hc2.cellNever b0
      have b1 := hc2.cellNever b1
      have hw := hA.trans hc2
      clear hA hc2
      rw [show atPos t f.path = posOf t f.path from if_pos Z.out, show atIs t f.path = isAt t f.path from if_pos Z.out, Z.out, errV_zero]
      go_wp2_with fail
      refine (check_any f.lines _ _ (hf.never hw)).mono ?_
      rintro e w3 ⟨rfl, rfl⟩
      rw [errV_pos ZL.out]
      go_wp2_with fail
      go_ret2
      exact ⟨_, by rw [HF.out, errV_pos ZL.out]; rfl, hw, by rw [HR.out]; exact rdv_nil _ _⟩
  · have Z := Lib.hid z
    obtain ⟨a, cap, rfl, h1, h2, _⟩ := rdv_slice h
    obtain ⟨fa, fcap, rfl, _, _, _⟩ := rdv_slice hf
    unfold maxLen at h2
    have hA : Chg Never w (w.alloc (.cells #[.string f.path, .slice fa f.lines.length fcap] 50)) := (Chg.refl Never w).alloc _
    have b0 : (w.alloc (.cells #[.string f.path, .slice fa f.lines.length fcap] 50)).cell? ⟨w.heap.size, 0, none⟩ = some (.string f.path) := by simp only [World.cell?]; rw [heap_alloc_new]; rfl
    have b1 : (w.alloc (.cells #[.string f.path, .slice fa f.lines.length fcap] 50)).cell? ⟨w.heap.size, 1, none⟩ = some (.slice fa f.lines.length fcap) := by simp only [World.cell?]; rw [heap_alloc_new]; rfl
    have HF : Hid (putFault t f = atFault t f.path) := if_neg z
    have HR : Hid (putR t f = []) := if_neg (by rw [HF.out]; exact z)
    clear z
    go_enter Tryd.func34, Tryd.ntmps34
    go_wp2_with fail
    generalize w.alloc (.cells #[.string f.path, .slice fa f.lines.length fcap] 50) = wA at hA b0 b1 ⊢
    generalize hBe : w.heap.size = B at b0 b1 ⊢
    refine (tree_at_any t f.path _ _ (h.never hA) m (hA.cellNever hm)).mono ?_
    rintro e w2 ⟨rfl, hc2⟩
    have b0 := hc2.cellNever b0
    have b1 := hc2.cellNever b1
    have hw := hA.trans hc2
    clear hA hc2
    rw [show atPos t f.path = 0 from if_neg Z.out, show atIs t f.path = false from if_neg Z.out, errV_pos Z.out]
    go_wp2_with fail
    go_ret2
    exact ⟨_, by rw [HF.out, errV_pos Z.out]; rfl, hw, by rw [HR.out]; exact rdv_nil _ _⟩
end Go.Proofs.YtpoammapjmddfaaDoor
