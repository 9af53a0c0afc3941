/-
  PARTS: THE WALK of patch.Apply.
-/
import Derived.Test.YtjiaidchcldocaaGreatDoorPg31
import Derived.Test.YtjiaidchcldocaaGreatDoorPg16
import Derived.Test.YtjiaidchcldocaaGreatDoorPg26
import Derived.Test.YtjiaidchcldocaaGreatDoorPg32
import Derived.Test.YtjiaidchcldocaaGreatDoorPg29
set_option linter.unusedVariables false
set_option linter.unusedSimpArgs false
namespace Go.Proofs.YtjiaidchcldocaaGreatDoor
open Go.RowKit

theorem apply_step {T : List File} {p : List Change} {k : Nat} {c : Change} (hd : p.drop k = c :: p.drop (k + 1)) (hz : (stepOf (look T c.path) c).2 = 0) : applyGo k T (p.drop k) = applyGo (k + 1) (setAt T c.path (stepOf (look T c.path) c).1) (p.drop (k + 1)) := by
  rw [hd, applyGo, if_neg (by rw [hz]; decide)]
theorem apply_bad {T : List File} {p : List Change} {k : Nat} {c : Change} (hd : p.drop k = c :: p.drop (k + 1)) (hz : (stepOf (look T c.path) c).2 ≠ 0) : applyGo k T (p.drop k) = ([], k, (stepOf (look T c.path) c).2) := by
  rw [hd, applyGo, if_pos hz]
theorem apply_end {T : List File} {p : List Change} : applyGo p.length T (p.drop p.length) = (T, 0, 0) := by rw [List.drop_length]; rfl
theorem find_is {T : List File} (hs : Sorted T) {p : ByteArray} (h : isAt T p = true) : ∃ f, T[posOf T p]? = some f ∧ f.path = p ∧ look T p = some f.lines ∧ posOf T p < T.length := by
  unfold isAt at h
  cases hf : T[posOf T p]? with
  | none => rw [hf] at h; cases h
  | some f =>
    rw [hf, Option.any_some] at h
    have hp := of_decide_eq_true h
    have := look_mem hs (List.mem_of_getElem? hf)
    rw [hp] at this
    exact ⟨f, rfl, hp, this, (List.getElem?_eq_some_iff.1 hf).1⟩
theorem find_not {T : List File} (hs : Sorted T) {p : ByteArray} (h : isAt T p = false) : look T p = none ∧ posOf T p ≤ T.length := by
  obtain ⟨A, C, h1, h2, _, _, h5, h6⟩ := tree_split hs p
  rcases h6 with ⟨h6, _⟩ | ⟨_, rfl⟩
  · rw [h6] at h; cases h
  · refine ⟨look_none fun x hx => ?_, by rw [h5, List.length_append]; omega⟩
    rcases List.mem_append.1 hx with hx | hx
    · exact less_ne (h1 x hx)
    · exact (less_ne (h2 x hx)).symm
theorem set_put {T : List File} {p : ByteArray} {l : List ByteArray} (h : isAt T p = false) : setAt T p (some l) = insAt T (posOf T p) ⟨p, l⟩ := by
  show putAt T ⟨p, l⟩ = _
  unfold putAt insAt
  rw [if_neg (by rw [h]; decide)]
theorem set_edit {T : List File} {p : ByteArray} {l : List ByteArray} (h : isAt T p = true) (hl : posOf T p < T.length) : setAt T p (some l) = insAt (dropAt T (posOf T p)) (posOf T p) ⟨p, l⟩ := by
  show putAt T ⟨p, l⟩ = _
  unfold putAt insAt dropAt
  have e : (T.take (posOf T p)).length = posOf T p := by rw [List.length_take]; omega
  rw [if_pos h]
  show _ = (T.take (posOf T p) ++ T.drop (posOf T p + 1)).take (posOf T p) ++ ⟨p, l⟩ :: (T.take (posOf T p) ++ T.drop (posOf T p + 1)).drop (posOf T p)
  congr 1
  · conv => rhs; arg 1; rw [← e]
    rw [List.take_left]
  · congr 1
    conv => rhs; arg 1; rw [← e]
    rw [List.drop_left]
theorem ins_len {T : List File} {i : Nat} {f : File} (h : i ≤ T.length) : (insAt T i f).length = T.length + 1 := by unfold insAt; rw [List.length_append, List.length_take, List.length_cons, List.length_drop]; omega
theorem drop_len {T : List File} {i : Nat} (h : i < T.length) : (dropAt T i).length = T.length - 1 := by unfold dropAt; rw [List.length_append, List.length_take, List.length_drop]; omega
theorem done_ok {there : Bool} {L : List ByteArray} {c : Change} (z : (doneR there L c).2.2 = 0) : (c.what = 2 → there = false) ∧ (c.what ≠ 2 → there = true) ∧ (doneR there L c).2.1 = decide (c.what ≠ 3) := by
  unfold doneR at z ⊢
  by_cases h1 : c.what = 2 ∧ there = true
  · rw [if_pos h1] at z; cases z
  · rw [if_neg h1] at z ⊢
    by_cases h2 : c.what ≠ 2 ∧ there = false
    · rw [if_pos h2] at z; cases z
    · rw [if_neg h2] at z ⊢
      by_cases h3 : (strict L c.hunks).2.2 ≠ 0
      · rw [if_pos h3] at z; exact absurd z h3
      · rw [if_neg h3] at z ⊢
        by_cases h4 : c.what = 3 ∧ (strict L c.hunks).1 ≠ []
        · rw [if_pos h4] at z; cases z
        · rw [if_neg h4]
          refine ⟨fun e => ?_, fun e => ?_, rfl⟩
          · cases there with
            | false => rfl
            | true => exact absurd ⟨e, rfl⟩ h1
          · cases there with
            | true => rfl
            | false => exact absurd ⟨e, rfl⟩ h2
theorem applyR_tree {t : List File} {p : List Change} (h : (treeFault t).2 ≠ 0) : applyR t p = ([], 0, (treeFault t).2) := if_pos h
theorem applyR_patch {t : List File} {p : List Change} (h : (treeFault t).2 = 0) (g : (patchFault p).2 ≠ 0) : applyR t p = ([], (patchFault p).1, (patchFault p).2) := by unfold applyR; rw [if_neg (by rw [h]; decide), if_pos g]
theorem applyR_go {t : List File} {p : List Change} (h : (treeFault t).2 = 0) (g : (patchFault p).2 = 0) {r : List File} {k : Nat} {e : Int} (x : applyGo 0 t p = (r, k, e)) : applyR t p = if e ≠ 0 then (r, k, e) else if 8 < r.length then ([], 0, 3) else (r, 0, 0) := by
  unfold applyR; rw [if_neg (by rw [h]; decide), if_neg (by rw [g]; decide), x]
def ApplyPost (t : List File) (p : List Change) (w : World) (e : Ending) (w' : World) : Prop := ∃ r, e = .returned (.tuple #[r, .int .i64 (applyR t p).2.1, errV (applyR t p).2.2]) ∧ Chg Never w w' ∧ Rdv w' Never r (applyR t p).1
theorem applyPost_bad {t : List File} {p : List Change} {k : Nat} {e : Int} {w w' : World} (h : applyR t p = ([], k, e)) (hc : Chg Never w w') : ApplyPost t p w (.returned (.tuple #[.slice none 0 0, .int .i64 k, errV e])) w' :=
  ⟨_, by rw [h], hc, by rw [h]; exact rdv_nil _ _⟩
theorem applyPost_ok {t R : List File} {p : List Change} {w w' : World} {r : Value} (h : applyR t p = (R, 0, 0)) (hc : Chg Never w w') (hr : Rdv w' Never r R) : ApplyPost t p w (.returned (.tuple #[r, .int .i64 0, .nilIface])) w' :=
  ⟨r, by rw [h]; rfl, hc, by rw [h]; exact hr⟩
theorem own_weak {α : Type} [Dat α] {e : TypeId} {w0 w w' : World} {v : Value} {l : List α} (h : Own e w' (Old w.heap.size) v l) (hc : Chg Never w0 w) (hc' : Chg Never w w') : OwnN e w0 w' v l :=
  ⟨h.keep (O'' := Never) (Chg.refl Never w') (fun _ _ h => h.elim) (fun _ _ h => h.elim), fun k hk => by
    obtain ⟨_, _, q, _⟩ := h
    have := q k hk
    have hs := hc.size
    unfold Old at this
    omega, hc.trans hc'⟩
set_option maxHeartbeats 4000000 in
set_option maxRecDepth 100000 in
theorem apply_any (t : List File) (p : List Change) (vt vp : Value) (w : World) (ht : Rdv w Never vt t) (hp : Rdv w Never vp p) (m : Int) (hm : w.cell? ⟨1, 0, none⟩ = some (.int .i64 m)) :
    Calls Tryz.prog 31 #[vt, vp] w fun e w' => ApplyPost t p w e w' := by
  obtain ⟨ta, tcap, rfl, _, _, _⟩ := rdv_slice ht
  obtain ⟨pa, pcap, rfl, p1, p2, _⟩ := rdv_slice hp
  unfold maxLen at p2
  by_cases z : (treeFault t).2 = 0
  · have Z := Lib.hid z
    by_cases y : (patchFault p).2 = 0
    · have Y := Lib.hid y
      have t8 := (treeFault_zero z).1
      have tl := (treeFault_zero z).2.1
      have tsrt := Lib.hid (treeFault_zero z).2.2.1
      have pl := (patch_of y).1
      have tl60 : ∀ f ∈ t, f.lines.length ≤ 1000000 := fun f hf => by
        have := linesFault_len (fileFault_lines (tl f hf))
        omega
      clear z y tl
      go_enter Tryz.func31, Tryz.ntmps31
      go_wp2_with fail
      refine (tree_check_any t _ _ ht m hm).mono ?_
      rintro e w1 ⟨rfl, hw⟩
      rw [Z.out, errV_zero]
      go_wp2_with fail
      refine (patch_check_any p _ _ (hp.never hw) m (hw.cellNever hm)).mono ?_
      rintro e w2 ⟨rfl, hc2⟩
      have hw := hw.trans hc2
      clear hc2
      rw [Y.out, errV_zero]
      go_wp2_with fail
      refine (tree_copy_any t _ _ (ht.never hw) (by omega) tl60).mono ?_
      rintro e w3 ⟨r3, rfl, hc3, hown⟩
      have hn0 := own_weak hown hw hc3
      clear hown hc3 hw tl60
      go_wp2_with fail
      go_loopw [11, 40] (fun v i wr => ∃ (k : Nat) (T : List File), k ≤ p.length ∧ i = .int .i64 k ∧ OwnN 117 w wr v T ∧ Hid (Sorted T) ∧ T.length ≤ 8 + k ∧ Hid (applyGo k T (p.drop k) = applyGo 0 t p)) (fun _ i _ => p.length - (intOf i).toNat)
      case atStart => exact ⟨0, t, Nat.zero_le _, rfl, hn0, tsrt, by omega, rfl⟩
      case round =>
        clear hn0
        rename World => wr
        obtain ⟨k, T, hk, rfl, hn, hS, hTl, hG⟩ := hrel
        obtain ⟨oa, ocap, rfl, o1, o2, o3⟩ := rdv_slice hn.own.rdv
        unfold maxLen at o2
        have hT : T.length ≤ 1000000 := by omega
        by_cases hlt : k < p.length
        · obtain ⟨c, hx⟩ : ∃ c, p[k]? = some c := ⟨p[k], by simp [hlt]⟩
          obtain ⟨_, _, hpa, _, _, p3⟩ := rdv_slice hp
          injection hpa with hpa1 hpa2 hpa3
          subst hpa1
          clear hpa2 hpa3
          obtain ⟨pb, po, hv, rfl, _, _, c0, c1, c2, hpc, hhv⟩ := elems_change p3 hx
          obtain ⟨ha, hcap, rfl, _, _, _⟩ := rdv_slice hhv
          have hhv := Lib.hid hhv
          have c0 := hn.chg.cellNever c0
          have c1 := hn.chg.cellNever c1
          have c2 := hn.chg.cellNever c2
          have HD := Lib.hid (drop_eq hx)
          obtain ⟨hA, d0, d1, d2⟩ := box1_change wr 85 c.what c.path (.slice ha c.hunks.length hcap) _ rfl
          have DS := Lib.hid (done_step (look T c.path) c)
          clear hx p3
          cases hi : isAt T c.path with
          | true =>
            obtain ⟨f, hf, hfp, hlk, hpos⟩ := find_is hS.out hi
            have IS := Lib.hid hi
            rw [hlk] at DS
            have HLK := Lib.hid hlk
            obtain ⟨fb, fo, flv, rfl, _, _, _, f1, _, hfl⟩ := elems_file o3 hf
            clear hi hf hlk o3 hfp
            have F1 := Lib.hid f1
            clear f1
            go_wp2_with fail
            generalize wr.alloc (.cells #[.int .i64 c.what, .string c.path, .slice ha c.hunks.length hcap] 85) = wA at hA d0 d1 d2 ⊢
            have hnA := hn.never hA
            have HLT := own_block_lt hn.own
            clear hn c0 c1 c2
            refine (treefind_any T c.path _ _ (hnA.own.rdv.sub (fun _ _ h => h.elim)) hS.out hT).mono ?_
            rintro e w4 ⟨rfl, hc4⟩
            have hn4 := hnA.never hc4
            have d0 := hc4.cellNever d0
            have d1 := hc4.cellNever d1
            have d2 := hc4.cellNever d2
            have hQ := hA.trans hc4
            clear hnA hA hc4
            rw [IS.out]
            have f1 := hQ.cellNever F1.out
            have hfl4 := (hfl.never hQ).sub (O' := Never) (fun _ _ h => h.elim)
            go_wp2_with fail
            refine (done_any true f.lines c _ _ _ (hfl4) (hhv.out.never hn4.chg)).mono ?_
            rintro e w5 ⟨r5, rfl, hc5, hr5⟩
            have hnD := hn4.never hc5
            have d0 := hc5.cellNever d0
            have d1 := hc5.cellNever d1
            have d2 := hc5.cellNever d2
            obtain ⟨ra, rc, rfl, _, _, _⟩ := rdv_slice hr5
            clear f1 hfl4
            have HST : Hid ((stepOf (look T c.path) c).2 = (doneR true f.lines c).2.2) := by rw [Hid, HLK.out, DS.out]; rfl
            by_cases hst : (stepOf (look T c.path) c).2 = 0
            · have hd0 := hst
              rw [HST.out] at hd0
              have HST0 := Lib.hid hst
              have HD0 := Lib.hid hd0
              obtain ⟨q1, q2, q3⟩ := done_ok hd0
              have k2 : c.what ≠ 2 := fun e => absurd (q1 e) (by decide)
              have t2 : (c.what == 2) = false := by simp [k2]
              have t2' : (c.what != 2) = true := by simp [k2]
              have hrf := hn4.fresh hr5
              have HSS0 : Hid (Sorted (setAt T c.path (stepOf (look T c.path) c).1)) := setAt_sorted hS.out (step_at hS.out (Prod.ext rfl HST0.out))
              have HNX0 : Hid (applyGo (k + 1) (setAt T c.path (stepOf (look T c.path) c).1) (p.drop (k + 1)) = applyGo 0 t p) := by rw [Hid, ← apply_step HD.out HST0.out]; exact hG.out
              have hdl := drop_len hpos
              rw [HD0.out, errV_zero]
              by_cases k3 : c.what = 3
              · have q3' : (doneR true f.lines c).2.1 = false := by rw [q3, k3]; rfl
                have HSET : Hid (setAt T c.path (stepOf (look T c.path) c).1 = dropAt T (posOf T c.path)) := by
                  rw [Hid, HLK.out, DS.out]
                  show setAt T c.path (if (doneR true f.lines c).2.1 = true then some (doneR true f.lines c).1 else none) = _
                  rw [if_neg (by rw [q3']; decide)]; rfl
                rw [q3']
                clear hst hd0 q1 q2 q3 q3' k2 k3 hr5 hc5 hrf d1 d2
                go_wp2_with fail
                refine (delete_any T (posOf T c.path) _ w w5 hnD hpos hT).mono ?_
                rintro e w8 ⟨r8, rfl, hn8, _, _⟩
                obtain ⟨va8, vn8, vc8, rfl⟩ := own_isSlice hn8.own
                clear d0 hnD hn4
                go_wp2_with fail
                go_roundw
                case rel => exact ⟨k + 1, _, by omega, by go_num, hn8, by rw [← HSET.out]; exact HSS0, by omega, by rw [← HSET.out]; exact HNX0⟩
                case measure => simp [intOf] <;> omega
              · have q3' : (doneR true f.lines c).2.1 = true := by rw [q3]; exact decide_eq_true k3
                have HSET : Hid (setAt T c.path (stepOf (look T c.path) c).1 = insAt (dropAt T (posOf T c.path)) (posOf T c.path) ⟨c.path, (doneR true f.lines c).1⟩) := by
                  rw [Hid, HLK.out, DS.out]
                  show setAt T c.path (if (doneR true f.lines c).2.1 = true then some (doneR true f.lines c).1 else none) = _
                  rw [if_pos q3', set_edit IS.out hpos]
                have HIL := Lib.hid (ins_len (T := dropAt T (posOf T c.path)) (i := posOf T c.path) (f := ⟨c.path, (doneR true f.lines c).1⟩) (by omega))
                rw [q3']
                clear hst hd0 q1 q2 q3 q3' k2 k3 hr5 hc5 d2
                go_wp2_with fail
                refine (delete_any T (posOf T c.path) _ w w5 hnD hpos hT).mono ?_
                rintro e w8 ⟨r8, rfl, hn8, hch8, hob8⟩
                have d1 := hch8.cell d1 (fun h => absurd (HLT _ h) (Nat.lt_irrefl _))
                have hrf8 := hrf.keep (O'' := fun k => Never k ∨ r8.ownBlock = some k) hch8 (fun k _ h => .inr h) (fun k _ h => h.imp_right (hob8 k))
                have hlt8 := own_block_lt hn8.own
                obtain ⟨va8, vn8, vc8, rfl⟩ := own_isSlice hn8.own
                clear d0 hnD hn4 hrf hch8 hob8
                have hnB := heap_alloc_new w8 (.cells #[.string c.path, .slice ra (doneR true f.lines c).1.length rc] 117)
                have hAB : Chg Never w8 (w8.alloc (.cells #[.string c.path, .slice ra (doneR true f.lines c).1.length rc] 117)) := (Chg.refl Never w8).alloc _
                go_wp2_with fail
                generalize w8.alloc (.cells #[.string c.path, .slice ra (doneR true f.lines c).1.length rc] 117) = wB at hnB hAB ⊢
                refine (insert_any (dropAt T (posOf T c.path)) (posOf T c.path) ⟨c.path, (doneR true f.lines c).1⟩ _ (.slice ra (doneR true f.lines c).1.length rc) w wB w8.heap.size 117 (hn8.never hAB) (by omega) (by omega) hnB (fun k hk e => absurd (hlt8 k hk) (by rw [e]; omega)) ⟨_, rfl, hpc, hrf8.never hAB⟩).mono ?_
                rintro e w9 ⟨r9, rfl, hn9⟩
                obtain ⟨va9, vn9, vc9, rfl⟩ := own_isSlice hn9.own
                clear hnB hAB d1 hrf8 hn8
                go_wp2_with fail
                go_roundw
                case rel => exact ⟨k + 1, _, by omega, by go_num, hn9, by rw [← HSET.out]; exact HSS0, by rw [HIL.out]; omega, by rw [← HSET.out]; exact HNX0⟩
                case measure => simp [intOf] <;> omega
            · have E := applyPost_bad (w := w) (applyR_go Z.out Y.out (by rw [← hG.out]; exact apply_bad HD.out hst) |>.trans (if_pos hst)) hnD.chg
              have hst' := hst
              rw [HST.out] at E hst'
              rw [errV_pos hst'] at E ⊢
              clear hst hst' d0 d1 d2
              go_wp2_with fail
              go_ret3
              exact E
          | false =>
            obtain ⟨hlk, hpos⟩ := find_not hS.out hi
            have IS := Lib.hid hi
            rw [hlk] at DS
            have HLK := Lib.hid hlk
            clear hi hlk o3
            go_wp2_with fail
            generalize wr.alloc (.cells #[.int .i64 c.what, .string c.path, .slice ha c.hunks.length hcap] 85) = wA at hA d0 d1 d2 ⊢
            have hnA := hn.never hA
            have HLT := own_block_lt hn.own
            clear hn c0 c1 c2
            refine (treefind_any T c.path _ _ (hnA.own.rdv.sub (fun _ _ h => h.elim)) hS.out hT).mono ?_
            rintro e w4 ⟨rfl, hc4⟩
            have hn4 := hnA.never hc4
            have d0 := hc4.cellNever d0
            have d1 := hc4.cellNever d1
            have d2 := hc4.cellNever d2
            have hQ := hA.trans hc4
            clear hnA hA hc4
            rw [IS.out]
            go_wp2_with fail
            refine (done_any false ([] : List ByteArray) c _ _ _ ((rdv_nil _ _)) (hhv.out.never hn4.chg)).mono ?_
            rintro e w5 ⟨r5, rfl, hc5, hr5⟩
            have hnD := hn4.never hc5
            have d0 := hc5.cellNever d0
            have d1 := hc5.cellNever d1
            have d2 := hc5.cellNever d2
            obtain ⟨ra, rc, rfl, _, _, _⟩ := rdv_slice hr5
            have HST : Hid ((stepOf (look T c.path) c).2 = (doneR false [] c).2.2) := by rw [Hid, HLK.out, DS.out]; rfl
            by_cases hst : (stepOf (look T c.path) c).2 = 0
            · have hd0 := hst
              rw [HST.out] at hd0
              have HST0 := Lib.hid hst
              have HD0 := Lib.hid hd0
              obtain ⟨q1, q2, q3⟩ := done_ok hd0
              have k2 : c.what = 2 := by
                by_cases e : c.what = 2
                · exact e
                · exact absurd (q2 e) (by decide)
              have q3' : (doneR false [] c).2.1 = true := by rw [q3, k2]; rfl
              have t2 : (c.what == 2) = true := by simp [k2]
              have hrf := hn4.fresh hr5
              have HSET : Hid (setAt T c.path (stepOf (look T c.path) c).1 = insAt T (posOf T c.path) ⟨c.path, (doneR false [] c).1⟩) := by
                rw [Hid, HLK.out, DS.out]
                show setAt T c.path (if (doneR false [] c).2.1 = true then some (doneR false [] c).1 else none) = _
                rw [if_pos q3', set_put IS.out]
              have HNX : Hid (applyGo (k + 1) (insAt T (posOf T c.path) ⟨c.path, (doneR false [] c).1⟩) (p.drop (k + 1)) = applyGo 0 t p) := by rw [Hid, ← HSET.out, ← apply_step HD.out HST0.out]; exact hG.out
              have HSS : Hid (Sorted (insAt T (posOf T c.path) ⟨c.path, (doneR false [] c).1⟩)) := by
                rw [Hid, ← HSET.out]
                exact setAt_sorted hS.out (step_at hS.out (Prod.ext rfl HST0.out))
              have HIL := Lib.hid (ins_len (T := T) (f := ⟨c.path, (doneR false [] c).1⟩) hpos)
              rw [HD0.out, errV_zero, q3']
              clear hst hd0 q1 q2 q3 q3' k2 hr5 hc5 HSET
              have hlt8 := own_block_lt hnD.own
              have hnB := heap_alloc_new w5 (.cells #[.string c.path, .slice ra (doneR false [] c).1.length rc] 117)
              have hAB : Chg Never w5 (w5.alloc (.cells #[.string c.path, .slice ra (doneR false [] c).1.length rc] 117)) := (Chg.refl Never w5).alloc _
              go_wp2_with fail
              generalize w5.alloc (.cells #[.string c.path, .slice ra (doneR false [] c).1.length rc] 117) = wB at hnB hAB ⊢
              refine (insert_any T (posOf T c.path) ⟨c.path, (doneR false [] c).1⟩ _ (.slice ra (doneR false [] c).1.length rc) w wB w5.heap.size 117 (hnD.never hAB) hpos hT hnB (fun k hk e => absurd (hlt8 k hk) (by rw [e]; omega)) ⟨_, rfl, hpc, hrf.never hAB⟩).mono ?_
              rintro e w8 ⟨r8, rfl, hn8⟩
              obtain ⟨va8, vn8, vc8, rfl⟩ := own_isSlice hn8.own
              clear hnB hAB d0 d1 d2 hrf hnD hn4
              go_wp2_with fail
              go_roundw
              case rel => exact ⟨k + 1, _, by omega, by go_num, hn8, HSS, by rw [HIL.out]; omega, HNX⟩
              case measure => simp [intOf] <;> omega
            · have E := applyPost_bad (w := w) (applyR_go Z.out Y.out (by rw [← hG.out]; exact apply_bad HD.out hst) |>.trans (if_pos hst)) hnD.chg
              have hst' := hst
              rw [HST.out] at E hst'
              rw [errV_pos hst'] at E ⊢
              clear hst hst' d0 d1 d2
              go_wp2_with fail
              go_ret3
              exact E
        · obtain rfl : k = p.length := by omega
          have hGo := hG.out
          rw [apply_end] at hGo
          have hR := applyR_go Z.out Y.out hGo.symm
          rw [if_neg (by decide)] at hR
          by_cases h8 : 8 < T.length
          · rw [if_pos h8] at hR
            have E := applyPost_bad (k := 0) hR hn.chg
            rw [errV_pos (by decide)] at E
            clear hR hGo hG
            go_wp2_with fail
            go_ret3
            exact E
          · rw [if_neg h8] at hR
            have HR := Lib.hid hR
            have hr := hn.own.rdv.sub (O' := Never) (fun _ _ h => h.elim)
            clear hR hGo hG
            go_wp2_with fail
            go_ret3
            exact applyPost_ok HR.out hn.chg hr
    · have HE := Lib.hid (applyR_patch z y)
      have Y := Lib.hid y
      have Z := Lib.hid z
      clear z y
      go_enter Tryz.func31, Tryz.ntmps31
      go_wp2_with fail
      refine (tree_check_any t _ _ ht m hm).mono ?_
      rintro e w1 ⟨rfl, hw⟩
      rw [Z.out, errV_zero]
      go_wp2_with fail
      refine (patch_check_any p _ _ (hp.never hw) m (hw.cellNever hm)).mono ?_
      rintro e w2 ⟨rfl, hc2⟩
      have E := applyPost_bad HE.out (hw.trans hc2)
      rw [errV_pos Y.out] at E ⊢
      go_wp2_with fail
      go_ret3
      exact E
  · have HE := Lib.hid (applyR_tree (p := p) z)
    have Z := Lib.hid z
    clear z
    go_enter Tryz.func31, Tryz.ntmps31
    go_wp2_with fail
    refine (tree_check_any t _ _ ht m hm).mono ?_
    rintro e w1 ⟨rfl, hw⟩
    have E := applyPost_bad HE.out hw
    rw [errV_pos Z.out] at E ⊢
    go_wp2_with fail
    go_ret3
    exact E
end Go.Proofs.YtjiaidchcldocaaGreatDoor
