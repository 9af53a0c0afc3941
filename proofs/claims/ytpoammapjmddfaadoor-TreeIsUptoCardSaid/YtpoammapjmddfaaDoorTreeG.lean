/-
  THE WALKS of tree.Drop, Put.
-/
import Derived.Test.YtpoammapjmddfaaDoorTreeF
namespace Go.Proofs.YtpoammapjmddfaaDoor
open Go.RowKit

theorem atFault_zero {t : List File} {p : ByteArray} (h : atFault t p = 0) : (treeFault t).2 = 0 ∧ pathFault p = 0 := by
  unfold atFault at h
  by_cases e : (treeFault t).2 = 0
  · rw [if_pos e] at h; exact ⟨e, h⟩
  · rw [if_neg e] at h; exact absurd h e
theorem tree_lines {t : List File} (h : (treeFault t).2 = 0) : ∀ f ∈ t, f.lines.length ≤ 60 := fun f hf => linesFault_len (fileFault_zero ((treeFault_zero h).2.1 f hf)).2
set_option maxHeartbeats 2000000 in
set_option maxRecDepth 100000 in
theorem tree_drop_any (t : List File) (p : ByteArray) (v : Value) (w : World) (h : Rdv w Never v t) (m : Int) (hm : w.cell? ⟨1, 0, none⟩ = some (.int .i64 m)) :
    Calls Tryd.prog 31 #[v, .string p] w fun e w' => ∃ r, e = .returned (.tuple #[r, errV (getFault t p)]) ∧ Chg Never w w' ∧ Rdv w' (Old w.heap.size) r (dropR t p) := by
  obtain ⟨a, cap, rfl, h1, h2, _⟩ := rdv_slice h
  unfold maxLen at h2
  by_cases z : atFault t p = 0
  · have Z := Lib.hid z
    by_cases zi : isAt t p = true
    · have ZI := Lib.hid zi
      have HF : Hid (getFault t p = 0) := by unfold Hid getFault; rw [if_pos z, if_pos zi]
      have HR : Hid (dropR t p = dropAt t (posOf t p)) := if_pos HF.out
      obtain ⟨x, hx, _⟩ := isAt_get zi
      have hlt := (List.getElem?_eq_some_iff.1 hx).1
      have hz8 := (atFault_zero z).1
      have HTL := Lib.hid (tree_lines hz8)
      have hl8 := (treeFault_zero hz8).1
      clear z zi hx hz8
      go_enter Tryd.func31, Tryd.ntmps31
      go_wp2_with fail
      refine (tree_at_any t p _ _ h m hm).mono ?_
      rintro e w1 ⟨rfl, hw⟩
      rw [show atPos t p = posOf t p from if_pos Z.out, show atIs t p = isAt t p from if_pos Z.out, Z.out, ZI.out, errV_zero]
      generalize posOf t p = k at hlt HR ⊢
      obtain ⟨sb1, y0, y1, hrunH, hsub1⟩ := slice_gen (P := Tryd.prog) (t := 48) (by kernel_rfl) size_file h 0 k (Nat.zero_le _) (by omega)
      have hrunH := fun (wx : World) => hrunH k wx rfl rfl
      clear y0 y1
      rw [Nat.sub_zero, Nat.sub_zero] at hrunH hsub1
      rw [List.drop_zero] at hsub1
      obtain ⟨sb2, y0, hrunL, y1, hsub2⟩ := slice_gen (P := Tryd.prog) (t := 48) (by kernel_rfl) size_file h (k + 1) t.length (by omega) (Nat.le_refl _)
      have hrunL := fun (wx : World) => hrunL ((k : Int) + 1) wx (by push_cast; rfl) rfl
      clear y0 y1
      rw [List.take_of_length_le (by rw [List.length_drop]; omega)] at hsub2
      have e1 : (t.take k).length = k := by rw [List.length_take]; omega
      have e2 : (t.drop (k + 1)).length = t.length - (k + 1) := List.length_drop
      have E1 := Lib.hid e1
      have E2 := Lib.hid e2
      have zw : IntKind.i64.wrap ((k : Int) + 1) = (k : Int) + 1 := IntWalk.i64_in _ (by omega)
      clear e1 e2
      go_wp2_with fail
      refine wp_region_held_drew (S := fun w' => Chg Never w w') (by kernel_rfl) hw.drew (fun hH => ?_)
      refine' wpAnyH_take (i := 0) ?hi0 (by kernel_rfl) (by kernel_rfl) (by kernel_rfl) ?hQ0 (Or.inl ⟨?hw0, ?hy0⟩) (by assumption) ?_
      case hi0 => (simp only [List.getElem?_toArray, List.getElem?_cons_succ, List.getElem?_cons_zero]; rfl)
      case hQ0 => exact fun _ _ _ h => h
      case hw0 => rfl
      case hy0 => (intro w' hSw; (try dsimp only at hSw); go_simp; all_goals with_reducible rfl)
      try simp only [Act.put, List.setIfInBounds_toArray, List.set_cons_zero, List.set_cons_succ]
      refine' wpAnyH_take (i := 1) ?hi1 (by kernel_rfl) (by kernel_rfl) (by kernel_rfl) ?hQ1 (Or.inl ⟨?hw1, ?hy1⟩) (by assumption) ?_
      case hi1 => (simp only [List.getElem?_toArray, List.getElem?_cons_succ, List.getElem?_cons_zero]; rfl)
      case hQ1 => exact fun _ _ _ h => h
      case hw1 => rfl
      case hy1 => (intro w' hSw; (try dsimp only at hSw); go_simp; all_goals with_reducible rfl)
      try simp only [Act.put, List.setIfInBounds_toArray, List.set_cons_zero, List.set_cons_succ]
      refine' wpAnyH_take (i := 2) ?hi2 (by kernel_rfl) (by kernel_rfl) (by kernel_rfl) ?hQ2 (Or.inl ⟨?hw2, ?hy2⟩) (by assumption) ?_
      case hi2 => (simp only [List.getElem?_toArray, List.getElem?_cons_succ, List.getElem?_cons_zero]; rfl)
      case hQ2 => exact fun _ _ _ h => h
      case hw2 => rfl
      case hy2 => (intro w' hSw; (try dsimp only at hSw); go_simp; all_goals with_reducible rfl)
      try simp only [Act.put, List.setIfInBounds_toArray, List.set_cons_zero, List.set_cons_succ]
      refine' wpAnyH_take (i := 3) ?hi3 (by kernel_rfl) (by kernel_rfl) (by kernel_rfl) ?hQ3 (Or.inl ⟨?hw3, ?hy3⟩) (by assumption) ?_
      case hi3 => (simp only [List.getElem?_toArray, List.getElem?_cons_succ, List.getElem?_cons_zero]; rfl)
      case hQ3 => exact fun _ _ _ h => h
      case hw3 => rfl
      case hy3 => (intro w' hSw; (try dsimp only at hSw); go_simp; all_goals with_reducible rfl)
      try simp only [Act.put, List.setIfInBounds_toArray, List.set_cons_zero, List.set_cons_succ]
      refine' wpAnyH_take (i := 4) ?hi4 (by kernel_rfl) (by kernel_rfl) (by kernel_rfl) ?hQ4 (Or.inl ⟨?hw4, ?hy4⟩) (by assumption) ?_
      case hi4 => (simp only [List.getElem?_toArray, List.getElem?_cons_succ, List.getElem?_cons_zero]; rfl)
      case hQ4 => exact fun _ _ _ h => h
      case hw4 => rfl
      case hy4 => (intro w' hSw; (try dsimp only at hSw); go_simp; all_goals with_reducible rfl)
      try simp only [Act.put, List.setIfInBounds_toArray, List.set_cons_zero, List.set_cons_succ]
      refine' wpAnyH_take (i := 5) ?hi5 (by kernel_rfl) (by kernel_rfl) (by kernel_rfl) ?hQ5 (Or.inl ⟨?hw5, ?hy5⟩) (by assumption) ?_
      case hi5 => (simp only [List.getElem?_toArray, List.getElem?_cons_succ, List.getElem?_cons_zero]; rfl)
      case hQ5 => exact fun _ _ _ h => h
      case hw5 => rfl
      case hy5 => (intro w' hSw; (try dsimp only at hSw); go_simp; all_goals with_reducible rfl)
      try simp only [Act.put, List.setIfInBounds_toArray, List.set_cons_zero, List.set_cons_succ]
      refine' wpAnyH_take (i := 6) ?hi6 (by kernel_rfl) (by kernel_rfl) (by kernel_rfl) ?hQ6 (Or.inl ⟨?hw6, ?hy6⟩) (by assumption) ?_
      case hi6 => (simp only [List.getElem?_toArray, List.getElem?_cons_succ, List.getElem?_cons_zero]; rfl)
      case hQ6 => exact fun _ _ _ h => h
      case hw6 => rfl
      case hy6 => (intro w' hSw; (try dsimp only at hSw); go_simp; all_goals with_reducible rfl)
      try simp only [Act.put, List.setIfInBounds_toArray, List.set_cons_zero, List.set_cons_succ]
      refine wpAnyH_ready (rs := [7]) (by kernel_rfl) (by simp) ?_
      refine AllReadyH.cons rfl (fun K hK => ?_) AllReadyH.nil
      go_simp
      refine hK.out _ _ (hH.alloc _) (fun hHn => ?_)
      clear hK K hH
      have hH := hHn
      clear hHn
      try simp only [Act.put, List.setIfInBounds_toArray, List.set_cons_zero, List.set_cons_succ]
      have HFL : Hid ([t.take k, t.drop (k + 1)].flatten = dropAt t k) := by unfold Hid dropAt; simp
      have hbl : [t.take k, t.drop (k + 1)].flatten.length ≤ 1000000 := by rw [HFL.out]; unfold dropAt; rw [List.length_append, E1.out, E2.out]; omega
      have hda : (dropAt t k).length ≤ 1000000 := by rw [← HFL.out]; exact hbl
      have hdl : ∀ f ∈ dropAt t k, f.lines.length ≤ 1000000 := fun f hf => by
        have hm : f ∈ t := by
          unfold dropAt at hf
          rcases List.mem_append.1 hf with hf | hf
          · exact List.mem_of_mem_take hf
          · exact List.mem_of_mem_drop hf
        have := HTL.out f hm
        omega
      have HDL := Lib.hid hdl
      clear hdl
      refine wpAnyH_ready (rs := [8]) (by kernel_rfl) (by simp) ?_
      refine AllReadyH.cons rfl (fun K hK => ?_) AllReadyH.nil
      go_simp
      (go_at_call 64; refine (concatf_any [t.take k, t.drop (k + 1)] _ _ (rdv_lit (cs := [.slice sb1 k cap, .slice sb2 (t.length - (k + 1)) (cap - (k + 1))]) (by exact heap_alloc_new w1 _) rfl (by simp) ⟨(hsub1.never hH), (hsub2.never hH), trivial⟩) hbl).mono ?_; rintro e wq ⟨rq, rfl, hnq⟩; rw [HFL.out] at hnq; have hrq := hnq.own.rdv.sub (O' := Never) (fun _ _ h => h.elim); obtain ⟨qa, qn, qc, rfl⟩ := own_isSlice hnq.own; have hS2 := hH.trans hnq.chg; clear hH hnq)
      try go_wp2_with fail
      refine hK.out _ _ ?_ (fun hH => ?_)
      · assumption
      clear hK K
      try simp only [Act.put, List.setIfInBounds_toArray, List.set_cons_zero, List.set_cons_succ]
      refine wpAnyH_ready (rs := [9]) (by kernel_rfl) (by simp) ?_
      refine AllReadyH.cons rfl (fun K hK => ?_) AllReadyH.nil
      go_simp
      (go_at_call 63; refine (tree_copy_any (dropAt t k) _ _ hrq hda HDL.out).mono ?_; rintro e wq2 ⟨rq2, rfl, hcq2, hown2⟩; have hsz2 := hH.size; have hr2 := hown2.rdv.sub (O' := Old w.heap.size) (fun j _ hj => Nat.lt_of_lt_of_le hj hsz2); obtain ⟨ra, rn, rc, rfl⟩ := own_isSlice hown2; have hS3 := hH.trans hcq2; clear hH hcq2 hown2)
      try go_wp2_with fail
      refine hK.out _ _ ?_ (fun hH => ?_)
      · assumption
      clear hK K
      try simp only [Act.put, List.setIfInBounds_toArray, List.set_cons_zero, List.set_cons_succ]
      refine' wpAnyH_take (i := 10) ?hi10 (by kernel_rfl) (by kernel_rfl) (by kernel_rfl) ?hQ10 (Or.inl ⟨?hw10, ?hy10⟩) (by assumption) ?_
      case hi10 => (simp only [List.getElem?_toArray, List.getElem?_cons_succ, List.getElem?_cons_zero]; rfl)
      case hQ10 => exact fun _ _ _ h => h
      case hw10 => rfl
      case hy10 => (intro w' hSw; (try dsimp only at hSw); go_simp; all_goals with_reducible rfl)
      try simp only [Act.put, List.setIfInBounds_toArray, List.set_cons_zero, List.set_cons_succ]
      refine' wpAnyH_take (i := 11) ?hi11 (by kernel_rfl) (by kernel_rfl) (by kernel_rfl) ?hQ11 (Or.inl ⟨?hw11, ?hy11⟩) (by assumption) ?_
      case hi11 => (simp only [List.getElem?_toArray, List.getElem?_cons_succ, List.getElem?_cons_zero]; rfl)
      case hQ11 => exact fun _ _ _ h => h
      case hw11 => rfl
      case hy11 => (intro w' hSw; (try dsimp only at hSw); go_simp; all_goals with_reducible rfl)
      try simp only [Act.put, List.setIfInBounds_toArray, List.set_cons_zero, List.set_cons_succ]
      refine wpAnyH_done (by kernel_rfl) ?_ _
      go_wp2_with fail
      go_ret2
      exact ⟨_, by rw [HF.out]; rfl, hH, by rw [HR.out]; exact hr2⟩
    · have ZI : Hid (isAt t p = false) := Bool.eq_false_iff.2 zi
      have HF : Hid (getFault t p = 4) := by unfold Hid getFault; rw [if_pos z, if_neg zi]
      have HR : Hid (dropR t p = []) := if_neg (by rw [HF.out]; decide)
      clear z zi
      go_enter Tryd.func31, Tryd.ntmps31
      go_wp2_with fail
      refine (tree_at_any t p _ _ h m hm).mono ?_
      rintro e w1 ⟨rfl, hw⟩
      rw [show atPos t p = posOf t p from if_pos Z.out, show atIs t p = isAt t p from if_pos Z.out, Z.out, ZI.out, errV_zero]
      go_wp2_with fail
      go_ret2
      exact ⟨_, by rw [HF.out]; rfl, hw, by rw [HR.out]; exact rdv_nil _ _⟩
  · have Z := Lib.hid z
    have HF : Hid (getFault t p = atFault t p) := if_neg z
    have HR : Hid (dropR t p = []) := if_neg (by rw [HF.out]; exact z)
    go_enter Tryd.func31, Tryd.ntmps31
    go_wp2_with fail
    refine (tree_at_any t p _ _ h m hm).mono ?_
    rintro e w1 ⟨rfl, hw⟩
    rw [show atPos t p = 0 from if_neg Z.out, show atIs t p = false from if_neg Z.out, errV_pos Z.out]
    clear z
    go_wp2_with fail
    go_ret2
    exact ⟨_, by rw [HF.out, errV_pos Z.out]; rfl, hw, by rw [HR.out]; exact rdv_nil _ _⟩
end Go.Proofs.YtpoammapjmddfaaDoor
