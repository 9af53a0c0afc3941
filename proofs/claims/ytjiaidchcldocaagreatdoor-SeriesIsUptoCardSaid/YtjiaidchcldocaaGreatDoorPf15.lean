/-
  PARTS: THE WALK of patch.Apply.; THE WALK of series.Run.; HUNKS DONE FROM THE LAST ONE ON, in plain Lean: it comes to the same as from the first one on.; THE WALKS of the document's Stands, replaced, StrictOf.; THE WALK of the document's StrictOf.; THE WALK of the document's ApplyOf.; THE WALK of handstitchsame.Mails at two lists that read alike.; THE WALK of handstitchsame.Trees.; THE WALKS of the document's SplitOf, and of handstitchsame.Series.; THE WALKS of handstitchsame.Series and of the document's Behind.
-/
import Derived.Test.YtjiaidchcldocaaGreatDoorPf14
import Derived.Test.YtjiaidchcldocaaGreatDoorPf5
import Derived.Test.YtjiaidchcldocaaGreatDoorPf6
import Derived.Test.YtjiaidchcldocaaGreatDoorPf10
import Derived.Test.YtjiaidchcldocaaGreatDoorPf3
import Derived.Test.YtjiaidchcldocaaGreatDoorPf11
import Derived.Test.YtjiaidchcldocaaGreatDoorPf4
import Derived.Test.YtjiaidchcldocaaGreatDoorPf2
import Derived.Deep.RegionHeld3
import Derived.Test.YtjiaidchcldocaaGreatDoorPf12
import Derived.Deep.QuietTactic
import Derived.BigQuiet
import Derived.StillTailTactics
set_option linter.unusedVariables false
set_option linter.unusedSimpArgs false
namespace Go.Proofs.YtjiaidchcldocaaGreatDoor
open Go.RowKit

theorem apply_step {T : List File} {p : List Change} {k : Nat} {c : Change} (hd : p.drop k = c :: p.drop (k + 1)) (hz : (stepOf (look T c.path) c).2 = 0) : applyGo k T (p.drop k) = applyGo (k + 1) (setAt T c.path (stepOf (look T c.path) c).1) (p.drop (k + 1)) := by
  rw [hd, applyGo, if_neg (by rw [hz]; decide)]
theorem apply_bad {T : List File} {p : List Change} {k : Nat} {c : Change} (hd : p.drop k = c :: p.drop (k + 1)) (hz : (stepOf (look T c.path) c).2 ≠ 0) : applyGo k T (p.drop k) = ([], k, (stepOf (look T c.path) c).2) := by
  rw [hd, applyGo, if_pos hz]
theorem apply_end {T : List File} {p : List Change} : applyGo p.length T (p.drop p.length) = (T, 0, 0) := by rw [List.drop_length]; rfl
theorem find_is {T : List File} (hs : Sorted T) {p : ByteArray} (h : isAt T p = true) : ∃ f, T[posOf T p]? = some f ∧ f.path = p ∧ look T p = some f.lines ∧ posOf T p < T.length := by
  unfold isAt at h
  cases hf : T[posOf T p]? with
  | none => rw [hf] at h; cases h
  | some f =>
    rw [hf, Option.any_some] at h
    have hp := of_decide_eq_true h
    have := look_mem hs (List.mem_of_getElem? hf)
    rw [hp] at this
    exact ⟨f, rfl, hp, this, (List.getElem?_eq_some_iff.1 hf).1⟩
theorem find_not {T : List File} (hs : Sorted T) {p : ByteArray} (h : isAt T p = false) : look T p = none ∧ posOf T p ≤ T.length := by
  obtain ⟨A, C, h1, h2, _, _, h5, h6⟩ := tree_split hs p
  rcases h6 with ⟨h6, _⟩ | ⟨_, rfl⟩
  · rw [h6] at h; cases h
  · refine ⟨look_none fun x hx => ?_, by rw [h5, List.length_append]; omega⟩
    rcases List.mem_append.1 hx with hx | hx
    · exact less_ne (h1 x hx)
    · exact (less_ne (h2 x hx)).symm
theorem set_put {T : List File} {p : ByteArray} {l : List ByteArray} (h : isAt T p = false) : setAt T p (some l) = insAt T (posOf T p) ⟨p, l⟩ := by
  show putAt T ⟨p, l⟩ = _
  unfold putAt insAt
  rw [if_neg (by rw [h]; decide)]
theorem set_edit {T : List File} {p : ByteArray} {l : List ByteArray} (h : isAt T p = true) (hl : posOf T p < T.length) : setAt T p (some l) = insAt (dropAt T (posOf T p)) (posOf T p) ⟨p, l⟩ := by
  show putAt T ⟨p, l⟩ = _
  unfold putAt insAt dropAt
  have e : (T.take (posOf T p)).length = posOf T p := by rw [List.length_take]; omega
  rw [if_pos h]
  show _ = (T.take (posOf T p) ++ T.drop (posOf T p + 1)).take (posOf T p) ++ ⟨p, l⟩ :: (T.take (posOf T p) ++ T.drop (posOf T p + 1)).drop (posOf T p)
  congr 1
  · conv => rhs; arg 1; rw [← e]
    rw [List.take_left]
  · congr 1
    conv => rhs; arg 1; rw [← e]
    rw [List.drop_left]
theorem ins_len {T : List File} {i : Nat} {f : File} (h : i ≤ T.length) : (insAt T i f).length = T.length + 1 := by unfold insAt; rw [List.length_append, List.length_take, List.length_cons, List.length_drop]; omega
theorem drop_len {T : List File} {i : Nat} (h : i < T.length) : (dropAt T i).length = T.length - 1 := by unfold dropAt; rw [List.length_append, List.length_take, List.length_drop]; omega
theorem done_ok {there : Bool} {L : List ByteArray} {c : Change} (z : (doneR there L c).2.2 = 0) : (c.what = 2 → there = false) ∧ (c.what ≠ 2 → there = true) ∧ (doneR there L c).2.1 = decide (c.what ≠ 3) := by
  unfold doneR at z ⊢
  by_cases h1 : c.what = 2 ∧ there = true
  · rw [if_pos h1] at z; cases z
  · rw [if_neg h1] at z ⊢
    by_cases h2 : c.what ≠ 2 ∧ there = false
    · rw [if_pos h2] at z; cases z
    · rw [if_neg h2] at z ⊢
      by_cases h3 : (strict L c.hunks).2.2 ≠ 0
      · rw [if_pos h3] at z; exact absurd z h3
      · rw [if_neg h3] at z ⊢
        by_cases h4 : c.what = 3 ∧ (strict L c.hunks).1 ≠ []
        · rw [if_pos h4] at z; cases z
        · rw [if_neg h4]
          refine ⟨fun e => ?_, fun e => ?_, rfl⟩
          · cases there with
            | false => rfl
            | true => exact absurd ⟨e, rfl⟩ h1
          · cases there with
            | true => rfl
            | false => exact absurd ⟨e, rfl⟩ h2
theorem applyR_tree {t : List File} {p : List Change} (h : (treeFault t).2 ≠ 0) : applyR t p = ([], 0, (treeFault t).2) := if_pos h
theorem applyR_patch {t : List File} {p : List Change} (h : (treeFault t).2 = 0) (g : (patchFault p).2 ≠ 0) : applyR t p = ([], (patchFault p).1, (patchFault p).2) := by unfold applyR; rw [if_neg (by rw [h]; decide), if_pos g]
theorem applyR_go {t : List File} {p : List Change} (h : (treeFault t).2 = 0) (g : (patchFault p).2 = 0) {r : List File} {k : Nat} {e : Int} (x : applyGo 0 t p = (r, k, e)) : applyR t p = if e ≠ 0 then (r, k, e) else if 8 < r.length then ([], 0, 3) else (r, 0, 0) := by
  unfold applyR; rw [if_neg (by rw [h]; decide), if_neg (by rw [g]; decide), x]
def ApplyPost (t : List File) (p : List Change) (w : World) (e : Ending) (w' : World) : Prop := ∃ r, e = .returned (.tuple #[r, .int .i64 (applyR t p).2.1, errV (applyR t p).2.2]) ∧ Chg Never w w' ∧ Rdv w' Never r (applyR t p).1
theorem applyPost_bad {t : List File} {p : List Change} {k : Nat} {e : Int} {w w' : World} (h : applyR t p = ([], k, e)) (hc : Chg Never w w') : ApplyPost t p w (.returned (.tuple #[.slice none 0 0, .int .i64 k, errV e])) w' :=
  ⟨_, by rw [h], hc, by rw [h]; exact rdv_nil _ _⟩
theorem applyPost_ok {t R : List File} {p : List Change} {w w' : World} {r : Value} (h : applyR t p = (R, 0, 0)) (hc : Chg Never w w') (hr : Rdv w' Never r R) : ApplyPost t p w (.returned (.tuple #[r, .int .i64 0, .nilIface])) w' :=
  ⟨r, by rw [h]; rfl, hc, by rw [h]; exact hr⟩
theorem own_weak {α : Type} [Dat α] {e : TypeId} {w0 w w' : World} {v : Value} {l : List α} (h : Own e w' (Old w.heap.size) v l) (hc : Chg Never w0 w) (hc' : Chg Never w w') : OwnN e w0 w' v l :=
  ⟨h.keep (O'' := Never) (Chg.refl Never w') (fun _ _ h => h.elim) (fun _ _ h => h.elim), fun k hk => by
    obtain ⟨_, _, q, _⟩ := h
    have := q k hk
    have hs := hc.size
    unfold Old at this
    omega, hc.trans hc'⟩
set_option maxHeartbeats 4000000 in
set_option maxRecDepth 100000 in
theorem apply_any (t : List File) (p : List Change) (vt vp : Value) (w : World) (ht : Rdv w Never vt t) (hp : Rdv w Never vp p) (m : Int) (hm : w.cell? ⟨1, 0, none⟩ = some (.int .i64 m)) :
    Calls Tryz.prog 31 #[vt, vp] w fun e w' => ApplyPost t p w e w' := by
  obtain ⟨ta, tcap, rfl, _, _, _⟩ := rdv_slice ht
  obtain ⟨pa, pcap, rfl, p1, p2, _⟩ := rdv_slice hp
  unfold maxLen at p2
  by_cases z : (treeFault t).2 = 0
  · have Z := Lib.hid z
    by_cases y : (patchFault p).2 = 0
    · have Y := Lib.hid y
      have t8 := (treeFault_zero z).1
      have tl := (treeFault_zero z).2.1
      have tsrt := Lib.hid (treeFault_zero z).2.2.1
      have pl := (patch_of y).1
      have tl60 : ∀ f ∈ t, f.lines.length ≤ 1000000 := fun f hf => by
        have := linesFault_len (fileFault_lines (tl f hf))
        omega
      clear z y tl
      go_enter Tryz.func31, Tryz.ntmps31
      go_wp2_with fail
      refine (tree_check_any t _ _ ht m hm).mono ?_
      rintro e w1 ⟨rfl, hw⟩
      rw [Z.out, errV_zero]
      go_wp2_with fail
      refine (patch_check_any p _ _ (hp.never hw) m (hw.cellNever hm)).mono ?_
      rintro e w2 ⟨rfl, hc2⟩
      have hw := hw.trans hc2
      clear hc2
      rw [Y.out, errV_zero]
      go_wp2_with fail
      refine (tree_copy_any t _ _ (ht.never hw) (by omega) tl60).mono ?_
      rintro e w3 ⟨r3, rfl, hc3, hown⟩
      have hn0 := own_weak hown hw hc3
      clear hown hc3 hw tl60
      go_wp2_with fail
      go_loopw [11, 40] (fun v i wr => ∃ (k : Nat) (T : List File), k ≤ p.length ∧ i = .int .i64 k ∧ OwnN 117 w wr v T ∧ Hid (Sorted T) ∧ T.length ≤ 8 + k ∧ Hid (applyGo k T (p.drop k) = applyGo 0 t p)) (fun _ i _ => p.length - (intOf i).toNat)
      case atStart => exact ⟨0, t, Nat.zero_le _, rfl, hn0, tsrt, by omega, rfl⟩
      case round =>
        clear hn0
        rename World => wr
        obtain ⟨k, T, hk, rfl, hn, hS, hTl, hG⟩ := hrel
        obtain ⟨oa, ocap, rfl, o1, o2, o3⟩ := rdv_slice hn.own.rdv
        unfold maxLen at o2
        have hT : T.length ≤ 1000000 := by omega
        by_cases hlt : k < p.length
        · obtain ⟨c, hx⟩ : ∃ c, p[k]? = some c := ⟨p[k], by simp [hlt]⟩
          obtain ⟨_, _, hpa, _, _, p3⟩ := rdv_slice hp
          injection hpa with hpa1 hpa2 hpa3
          subst hpa1
          clear hpa2 hpa3
          obtain ⟨pb, po, hv, rfl, _, _, c0, c1, c2, hpc, hhv⟩ := elems_change p3 hx
          obtain ⟨ha, hcap, rfl, _, _, _⟩ := rdv_slice hhv
          have hhv := Lib.hid hhv
          have c0 := hn.chg.cellNever c0
          have c1 := hn.chg.cellNever c1
          have c2 := hn.chg.cellNever c2
          have HD := Lib.hid (drop_eq hx)
          obtain ⟨hA, d0, d1, d2⟩ := box1_change wr 85 c.what c.path (.slice ha c.hunks.length hcap) _ rfl
          have DS := Lib.hid (done_step (look T c.path) c)
          clear hx p3
          cases hi : isAt T c.path with
          | true =>
            obtain ⟨f, hf, hfp, hlk, hpos⟩ := find_is hS.out hi
            have IS := Lib.hid hi
            rw [hlk] at DS
            have HLK := Lib.hid hlk
            obtain ⟨fb, fo, flv, rfl, _, _, _, f1, _, hfl⟩ := elems_file o3 hf
            clear hi hf hlk o3 hfp
            have F1 := Lib.hid f1
            clear f1
            go_wp2_with fail
            generalize wr.alloc (.cells #[.int .i64 c.what, .string c.path, .slice ha c.hunks.length hcap] 85) = wA at hA d0 d1 d2 ⊢
            have hnA := hn.never hA
            have HLT := own_block_lt hn.own
            clear hn c0 c1 c2
            refine (treefind_any T c.path _ _ (hnA.own.rdv.sub (fun _ _ h => h.elim)) hS.out hT).mono ?_
            rintro e w4 ⟨rfl, hc4⟩
            have hn4 := hnA.never hc4
            have d0 := hc4.cellNever d0
            have d1 := hc4.cellNever d1
            have d2 := hc4.cellNever d2
            have hQ := hA.trans hc4
            clear hnA hA hc4
            rw [IS.out]
            have f1 := hQ.cellNever F1.out
            have hfl4 := (hfl.never hQ).sub (O' := Never) (fun _ _ h => h.elim)
            go_wp2_with fail
            refine (done_any true f.lines c _ _ _ (hfl4) (hhv.out.never hn4.chg)).mono ?_
            rintro e w5 ⟨r5, rfl, hc5, hr5⟩
            have hnD := hn4.never hc5
            have d0 := hc5.cellNever d0
            have d1 := hc5.cellNever d1
            have d2 := hc5.cellNever d2
            obtain ⟨ra, rc, rfl, _, _, _⟩ := rdv_slice hr5
            clear f1 hfl4
            have HST : Hid ((stepOf (look T c.path) c).2 = (doneR true f.lines c).2.2) := by rw [Hid, HLK.out, DS.out]; rfl
            by_cases hst : (stepOf (look T c.path) c).2 = 0
            · have hd0 := hst
              rw [HST.out] at hd0
              have HST0 := Lib.hid hst
              have HD0 := Lib.hid hd0
              obtain ⟨q1, q2, q3⟩ := done_ok hd0
              have k2 : c.what ≠ 2 := fun e => absurd (q1 e) (by decide)
              have t2 : (c.what == 2) = false := by simp [k2]
              have t2' : (c.what != 2) = true := by simp [k2]
              have hrf := hn4.fresh hr5
              have HSS0 : Hid (Sorted (setAt T c.path (stepOf (look T c.path) c).1)) := setAt_sorted hS.out (step_at hS.out (Prod.ext rfl HST0.out))
              have HNX0 : Hid (applyGo (k + 1) (setAt T c.path (stepOf (look T c.path) c).1) (p.drop (k + 1)) = applyGo 0 t p) := by rw [Hid, ← apply_step HD.out HST0.out]; exact hG.out
              have hdl := drop_len hpos
              rw [HD0.out, errV_zero]
              by_cases k3 : c.what = 3
              · have q3' : (doneR true f.lines c).2.1 = false := by rw [q3, k3]; rfl
                have HSET : Hid (setAt T c.path (stepOf (look T c.path) c).1 = dropAt T (posOf T c.path)) := by
                  rw [Hid, HLK.out, DS.out]
                  show setAt T c.path (if (doneR true f.lines c).2.1 = true then some (doneR true f.lines c).1 else none) = _
                  rw [if_neg (by rw [q3']; decide)]; rfl
                rw [q3']
                clear hst hd0 q1 q2 q3 q3' k2 k3 hr5 hc5 hrf d1 d2
                go_wp2_with fail
                refine (delete_any T (posOf T c.path) _ w w5 hnD hpos hT).mono ?_
                rintro e w8 ⟨r8, rfl, hn8, _, _⟩
                obtain ⟨va8, vn8, vc8, rfl⟩ := own_isSlice hn8.own
                clear d0 hnD hn4
                go_wp2_with fail
                go_roundw
                case rel => exact ⟨k + 1, _, by omega, by go_num, hn8, by rw [← HSET.out]; exact HSS0, by omega, by rw [← HSET.out]; exact HNX0⟩
                case measure => simp [intOf] <;> omega
              · have q3' : (doneR true f.lines c).2.1 = true := by rw [q3]; exact decide_eq_true k3
                have HSET : Hid (setAt T c.path (stepOf (look T c.path) c).1 = insAt (dropAt T (posOf T c.path)) (posOf T c.path) ⟨c.path, (doneR true f.lines c).1⟩) := by
                  rw [Hid, HLK.out, DS.out]
                  show setAt T c.path (if (doneR true f.lines c).2.1 = true then some (doneR true f.lines c).1 else none) = _
                  rw [if_pos q3', set_edit IS.out hpos]
                have HIL := Lib.hid (ins_len (T := dropAt T (posOf T c.path)) (i := posOf T c.path) (f := ⟨c.path, (doneR true f.lines c).1⟩) (by omega))
                rw [q3']
                clear hst hd0 q1 q2 q3 q3' k2 k3 hr5 hc5 d2
                go_wp2_with fail
                refine (delete_any T (posOf T c.path) _ w w5 hnD hpos hT).mono ?_
                rintro e w8 ⟨r8, rfl, hn8, hch8, hob8⟩
                have d1 := hch8.cell d1 (fun h => absurd (HLT _ h) (Nat.lt_irrefl _))
                have hrf8 := hrf.keep (O'' := fun k => Never k ∨ r8.ownBlock = some k) hch8 (fun k _ h => .inr h) (fun k _ h => h.imp_right (hob8 k))
                have hlt8 := own_block_lt hn8.own
                obtain ⟨va8, vn8, vc8, rfl⟩ := own_isSlice hn8.own
                clear d0 hnD hn4 hrf hch8 hob8
                have hnB := heap_alloc_new w8 (.cells #[.string c.path, .slice ra (doneR true f.lines c).1.length rc] 117)
                have hAB : Chg Never w8 (w8.alloc (.cells #[.string c.path, .slice ra (doneR true f.lines c).1.length rc] 117)) := (Chg.refl Never w8).alloc _
                go_wp2_with fail
                generalize w8.alloc (.cells #[.string c.path, .slice ra (doneR true f.lines c).1.length rc] 117) = wB at hnB hAB ⊢
                refine (insert_any (dropAt T (posOf T c.path)) (posOf T c.path) ⟨c.path, (doneR true f.lines c).1⟩ _ (.slice ra (doneR true f.lines c).1.length rc) w wB w8.heap.size 117 (hn8.never hAB) (by omega) (by omega) hnB (fun k hk e => absurd (hlt8 k hk) (by rw [e]; omega)) ⟨_, rfl, hpc, hrf8.never hAB⟩).mono ?_
                rintro e w9 ⟨r9, rfl, hn9⟩
                obtain ⟨va9, vn9, vc9, rfl⟩ := own_isSlice hn9.own
                clear hnB hAB d1 hrf8 hn8
                go_wp2_with fail
                go_roundw
                case rel => exact ⟨k + 1, _, by omega, by go_num, hn9, by rw [← HSET.out]; exact HSS0, by rw [HIL.out]; omega, by rw [← HSET.out]; exact HNX0⟩
                case measure => simp [intOf] <;> omega
            · have E := applyPost_bad (w := w) (applyR_go Z.out Y.out (by rw [← hG.out]; exact apply_bad HD.out hst) |>.trans (if_pos hst)) hnD.chg
              have hst' := hst
              rw [HST.out] at E hst'
              rw [errV_pos hst'] at E ⊢
              clear hst hst' d0 d1 d2
              go_wp2_with fail
              go_ret3
              exact E
          | false =>
            obtain ⟨hlk, hpos⟩ := find_not hS.out hi
            have IS := Lib.hid hi
            rw [hlk] at DS
            have HLK := Lib.hid hlk
            clear hi hlk o3
            go_wp2_with fail
            generalize wr.alloc (.cells #[.int .i64 c.what, .string c.path, .slice ha c.hunks.length hcap] 85) = wA at hA d0 d1 d2 ⊢
            have hnA := hn.never hA
            have HLT := own_block_lt hn.own
            clear hn c0 c1 c2
            refine (treefind_any T c.path _ _ (hnA.own.rdv.sub (fun _ _ h => h.elim)) hS.out hT).mono ?_
            rintro e w4 ⟨rfl, hc4⟩
            have hn4 := hnA.never hc4
            have d0 := hc4.cellNever d0
            have d1 := hc4.cellNever d1
            have d2 := hc4.cellNever d2
            have hQ := hA.trans hc4
            clear hnA hA hc4
            rw [IS.out]
            go_wp2_with fail
            refine (done_any false ([] : List ByteArray) c _ _ _ ((rdv_nil _ _)) (hhv.out.never hn4.chg)).mono ?_
            rintro e w5 ⟨r5, rfl, hc5, hr5⟩
            have hnD := hn4.never hc5
            have d0 := hc5.cellNever d0
            have d1 := hc5.cellNever d1
            have d2 := hc5.cellNever d2
            obtain ⟨ra, rc, rfl, _, _, _⟩ := rdv_slice hr5
            have HST : Hid ((stepOf (look T c.path) c).2 = (doneR false [] c).2.2) := by rw [Hid, HLK.out, DS.out]; rfl
            by_cases hst : (stepOf (look T c.path) c).2 = 0
            · have hd0 := hst
              rw [HST.out] at hd0
              have HST0 := Lib.hid hst
              have HD0 := Lib.hid hd0
              obtain ⟨q1, q2, q3⟩ := done_ok hd0
              have k2 : c.what = 2 := by
                by_cases e : c.what = 2
                · exact e
                · exact absurd (q2 e) (by decide)
              have q3' : (doneR false [] c).2.1 = true := by rw [q3, k2]; rfl
              have t2 : (c.what == 2) = true := by simp [k2]
              have hrf := hn4.fresh hr5
              have HSET : Hid (setAt T c.path (stepOf (look T c.path) c).1 = insAt T (posOf T c.path) ⟨c.path, (doneR false [] c).1⟩) := by
                rw [Hid, HLK.out, DS.out]
                show setAt T c.path (if (doneR false [] c).2.1 = true then some (doneR false [] c).1 else none) = _
                rw [if_pos q3', set_put IS.out]
              have HNX : Hid (applyGo (k + 1) (insAt T (posOf T c.path) ⟨c.path, (doneR false [] c).1⟩) (p.drop (k + 1)) = applyGo 0 t p) := by rw [Hid, ← HSET.out, ← apply_step HD.out HST0.out]; exact hG.out
              have HSS : Hid (Sorted (insAt T (posOf T c.path) ⟨c.path, (doneR false [] c).1⟩)) := by
                rw [Hid, ← HSET.out]
                exact setAt_sorted hS.out (step_at hS.out (Prod.ext rfl HST0.out))
              have HIL := Lib.hid (ins_len (T := T) (f := ⟨c.path, (doneR false [] c).1⟩) hpos)
              rw [HD0.out, errV_zero, q3']
              clear hst hd0 q1 q2 q3 q3' k2 hr5 hc5 HSET
              have hlt8 := own_block_lt hnD.own
              have hnB := heap_alloc_new w5 (.cells #[.string c.path, .slice ra (doneR false [] c).1.length rc] 117)
              have hAB : Chg Never w5 (w5.alloc (.cells #[.string c.path, .slice ra (doneR false [] c).1.length rc] 117)) := (Chg.refl Never w5).alloc _
              go_wp2_with fail
              generalize w5.alloc (.cells #[.string c.path, .slice ra (doneR false [] c).1.length rc] 117) = wB at hnB hAB ⊢
              refine (insert_any T (posOf T c.path) ⟨c.path, (doneR false [] c).1⟩ _ (.slice ra (doneR false [] c).1.length rc) w wB w5.heap.size 117 (hnD.never hAB) hpos hT hnB (fun k hk e => absurd (hlt8 k hk) (by rw [e]; omega)) ⟨_, rfl, hpc, hrf.never hAB⟩).mono ?_
              rintro e w8 ⟨r8, rfl, hn8⟩
              obtain ⟨va8, vn8, vc8, rfl⟩ := own_isSlice hn8.own
              clear hnB hAB d0 d1 d2 hrf hnD hn4
              go_wp2_with fail
              go_roundw
              case rel => exact ⟨k + 1, _, by omega, by go_num, hn8, HSS, by rw [HIL.out]; omega, HNX⟩
              case measure => simp [intOf] <;> omega
            · have E := applyPost_bad (w := w) (applyR_go Z.out Y.out (by rw [← hG.out]; exact apply_bad HD.out hst) |>.trans (if_pos hst)) hnD.chg
              have hst' := hst
              rw [HST.out] at E hst'
              rw [errV_pos hst'] at E ⊢
              clear hst hst' d0 d1 d2
              go_wp2_with fail
              go_ret3
              exact E
        · obtain rfl : k = p.length := by omega
          have hGo := hG.out
          rw [apply_end] at hGo
          have hR := applyR_go Z.out Y.out hGo.symm
          rw [if_neg (by decide)] at hR
          by_cases h8 : 8 < T.length
          · rw [if_pos h8] at hR
            have E := applyPost_bad (k := 0) hR hn.chg
            rw [errV_pos (by decide)] at E
            clear hR hGo hG
            go_wp2_with fail
            go_ret3
            exact E
          · rw [if_neg h8] at hR
            have HR := Lib.hid hR
            have hr := hn.own.rdv.sub (O' := Never) (fun _ _ h => h.elim)
            clear hR hGo hG
            go_wp2_with fail
            go_ret3
            exact applyPost_ok HR.out hn.chg hr
    · have HE := Lib.hid (applyR_patch z y)
      have Y := Lib.hid y
      have Z := Lib.hid z
      clear z y
      go_enter Tryz.func31, Tryz.ntmps31
      go_wp2_with fail
      refine (tree_check_any t _ _ ht m hm).mono ?_
      rintro e w1 ⟨rfl, hw⟩
      rw [Z.out, errV_zero]
      go_wp2_with fail
      refine (patch_check_any p _ _ (hp.never hw) m (hw.cellNever hm)).mono ?_
      rintro e w2 ⟨rfl, hc2⟩
      have E := applyPost_bad HE.out (hw.trans hc2)
      rw [errV_pos Y.out] at E ⊢
      go_wp2_with fail
      go_ret3
      exact E
  · have HE := Lib.hid (applyR_tree (p := p) z)
    have Z := Lib.hid z
    clear z
    go_enter Tryz.func31, Tryz.ntmps31
    go_wp2_with fail
    refine (tree_check_any t _ _ ht m hm).mono ?_
    rintro e w1 ⟨rfl, hw⟩
    have E := applyPost_bad HE.out hw
    rw [errV_pos Z.out] at E ⊢
    go_wp2_with fail
    go_ret3
    exact E
end Go.Proofs.YtjiaidchcldocaaGreatDoor
namespace Go.Proofs.YtjiaidchcldocaaGreatDoor
open Go.RowKit

def runF (t : List File) (l : List Mail) : Int := if (treeFault t).2 ≠ 0 then (treeFault t).2 else if (openMs l).2.2 ≠ 0 then (openMs l).2.2 else (runGoS t (openMs l).2.1).2
def runR (t : List File) (l : List Mail) : List File := if runF t l = 0 then (runGoS t (openMs l).2.1).1 else []
theorem runGo_step {t x : List File} {p : List (List Change)} {k : Nat} {c : List Change} (h : runGoS x (p.drop k) = runGoS t p) (hx : p[k]? = some c) :
    ((applyR x c).2.2 = 0 → runGoS (applyR x c).1 (p.drop (k + 1)) = runGoS t p) ∧ ((applyR x c).2.2 ≠ 0 → runGoS t p = ([], (applyR x c).2.2)) := by
  rw [drop_eq hx, runGoS] at h
  exact ⟨fun z => by rw [if_pos z] at h; exact h, fun z => by rw [if_neg z] at h; exact h.symm⟩
def SRunPost (t : List File) (l : List Mail) (w : World) (e : Ending) (w' : World) : Prop := ∃ r, e = .returned (.tuple #[r, errV (runF t l)]) ∧ Chg Never w w' ∧ Rdv w' Never r (runR t l)
theorem srun_no {t : List File} {l : List Mail} {w w' : World} {e : Ending} {k : Int} (hk : runF t l = k) (h0 : k ≠ 0) (he : e = .returned (.tuple #[.slice none 0 0, errV k])) (hc : Chg Never w w') : SRunPost t l w e w' :=
  ⟨_, by rw [hk]; exact he, hc, by unfold runR; rw [if_neg (by rw [hk]; exact h0)]; exact rdv_nil _ _⟩
set_option maxHeartbeats 2000000 in
set_option maxRecDepth 100000 in
theorem srun_any (t : List File) (l : List Mail) (vt vl : Value) (w : World) (ht : Rdv w Never vt t) (hl : Rdv w Never vl l) (hl9 : l.length ≤ 1000000000) (mx : Int) (hg : Globs w mx) :
    Calls Tryz.prog 22 #[vt, vl] w (SRunPost t l w) := by
  have hm := hg.ml
  go_enter Tryz.func22, Tryz.ntmps22
  go_wp2_with fail
  refine (tree_check_any t _ _ ht mx hm).mono ?_
  rintro e w1 ⟨rfl, hc1⟩
  by_cases z : (treeFault t).2 = 0
  · have HT := Lib.hid (tree_iff.2 z)
    have HF1 : Hid (runF t l = if (openMs l).2.2 ≠ 0 then (openMs l).2.2 else (runGoS t (openMs l).2.1).2) := if_neg (by rw [z]; simp)
    rw [z, errV_zero]
    clear z
    go_wp2_with fail
    refine (sopen_any l _ _ (hl.never hc1) hl9 mx (hg.never hc1)).mono ?_
    rintro e w2 ⟨r2, rfl, hc2, hr2⟩
    have hw2 := hc1.trans hc2
    by_cases y : (openMs l).2.2 = 0
    · have HF2 : Hid (runF t l = (runGoS t (openMs l).2.1).2) := by rw [Hid, HF1.out, if_neg (by rw [y]; simp)]
      rw [y, errV_zero]
      clear y HF1
      have HRR : Hid (runF t l = 0 → runR t l = (runGoS t (openMs l).2.1).1) := fun q => if_pos q
      generalize (openMs l).1 = title
      generalize (openMs l).2.1 = p at hr2 HF2 HRR
      obtain ⟨pa, pcap, rfl, p1, p2, p3⟩ := rdv_slice hr2
      unfold maxLen at p2
      have ht2 := ht.never hw2
      go_wp2_with fail
      refine (tree_copy_any t _ _ ht2 (by have := HT.out.1; omega) (fun f hf => by have := linesFault_len (fileFault_lines (HT.out.2.1 f hf)); omega)).mono ?_
      rintro e w3 ⟨r3, rfl, hc3, hown3⟩
      have hr3 : Rdv w3 Never r3 t := hown3.rdv.sub (fun k _ hk => hk.elim)
      have hw3 := hw2.trans hc3
      clear hown3 ht2
      go_wp2_with fail
      go_loopw [0, 34] (fun tv iv wr => ∃ (k : Nat) (x : List File), k ≤ p.length ∧ iv = .int .i64 k ∧ Chg Never w3 wr ∧ Rdv wr Never tv x ∧ Hid (runGoS x (p.drop k) = runGoS t p)) (fun _ iv _ => p.length - (intOf iv).toNat)
      case atStart => exact ⟨0, t, Nat.zero_le _, rfl, Chg.refl _ _, hr3, rfl⟩
      case round =>
        clear hr3
        obtain ⟨k, x, hk, rfl, hc, hx, hgo⟩ := hrel
        rename World => wr
        obtain ⟨xa, xc, rfl, _, _, _⟩ := rdv_slice hx
        by_cases hlt : k < p.length
        · obtain ⟨c, hcx⟩ : ∃ c, p[k]? = some c := ⟨p[k], by simp [hlt]⟩
          obtain ⟨b, off, cv, rfl, _, _, d0, hcv⟩ := elems_row p3 hcx
          have d0 := (hc3.trans hc).cellNever d0
          have hcv := (hcv.never hc3).never hc
          obtain ⟨ca, cc, rfl, _, _, _⟩ := rdv_slice hcv
          obtain ⟨st1, st2⟩ := runGo_step hgo.out hcx
          clear hcx p3 hgo
          go_wp2_with fail
          refine (apply_any x c _ _ _ hx hcv mx ((hw3.trans hc).cellNever hm)).mono ?_
          rintro e w4 ⟨r4, rfl, hc4, hr4⟩
          have hc := hc.trans hc4
          generalize (applyR x c).2.1 = an
          by_cases za : (applyR x c).2.2 = 0
          · have HS := Lib.hid (st1 za)
            rw [za, errV_zero]
            clear za st1 st2
            go_wp2_with fail
            go_roundw
            case rel => exact ⟨k + 1, _, by omega, by go_num, hc, hr4, HS⟩
            case measure => simp [intOf] <;> omega
          · have HF3 : Hid (runF t l = (applyR x c).2.2) := by rw [Hid, HF2.out, st2 za]
            have ZA := Lib.hid za
            rw [errV_pos za]
            clear za st1 st2 hr4
            go_wp2_with fail
            go_ret2
            exact srun_no HF3.out ZA.out (by rw [errV_pos ZA.out]; rfl) (hw3.trans hc)
        · have hgo' := hgo.out
          rw [List.drop_of_length_le (by omega), runGoS] at hgo'
          have HF3 : Hid (runF t l = 0) := by rw [Hid, HF2.out, ← hgo']
          have HR3 : Hid (runR t l = x) := by rw [Hid, HRR.out HF3.out, ← hgo']
          clear hgo' hgo p3
          go_wp2_with fail
          go_ret2
          exact ⟨_, by rw [HF3.out]; rfl, hw3.trans hc, by rw [HR3.out]; exact hx⟩
    · have HF2 : Hid (runF t l = (openMs l).2.2) := by rw [Hid, HF1.out, if_pos y]
      have Y := Lib.hid y
      rw [errV_pos y]
      obtain ⟨pa, pcap, rfl, _, _, _⟩ := rdv_slice hr2
      generalize (openMs l).2.1.length = pn
      generalize (openMs l).1 = title
      clear y hr2
      go_wp2_with fail
      go_ret2
      exact srun_no HF2.out Y.out (by rw [errV_pos Y.out]; rfl) hw2
  · have HF1 : Hid (runF t l = (treeFault t).2) := if_pos z
    have Z := Lib.hid z
    rw [errV_pos z]
    clear z
    go_wp2_with fail
    go_ret2
    exact srun_no HF1.out Z.out (by rw [errV_pos Z.out]; rfl) hc1
end Go.Proofs.YtjiaidchcldocaaGreatDoor
namespace Go.Proofs.YtjiaidchcldocaaGreatDoor

def repl (a : List ByteArray) (at_ n : Nat) (l : List ByteArray) : List ByteArray := a.take at_ ++ l ++ a.drop (at_ + n)
def backDo (a : List ByteArray) (r : List Hunk) : List ByteArray := r.foldr (fun h acc => repl acc h.old.toNat (oldN h.marks) (newOf h.marks)) a
theorem backDo_cons (a : List ByteArray) (h : Hunk) (r : List Hunk) : backDo a (h :: r) = repl (backDo a r) h.old.toNat (oldN h.marks) (newOf h.marks) := rfl
def firstClash (a : List ByteArray) : Nat → List Hunk → Option Nat
  | _, [] => none
  | i, h :: r => if standsB a h.old (oldOf h.marks) then firstClash a (i + 1) r else some i
theorem stands_bound {a : List ByteArray} {h : Hunk} (hs : standsB a h.old (oldOf h.marks) = true) : 0 ≤ h.old ∧ h.old.toNat + oldN h.marks ≤ a.length := by
  obtain ⟨s1, s2, _⟩ := stands_split hs
  exact ⟨s1, s2⟩
theorem back_take (a : List ByteArray) : ∀ (r : List Hunk) (i fr : Nat) (more : Int), fr ≤ a.length → hOk fr more r → firstClash a i r = none → (backDo a r).take fr = a.take fr ∧ fr ≤ (backDo a r).length
  | [], _, fr, _, h1, _, _ => ⟨rfl, h1⟩
  | h :: r, i, fr, more, h1, hk, hf => by
    rw [firstClash] at hf
    by_cases hs : standsB a h.old (oldOf h.marks) = true
    · rw [if_pos hs] at hf
      obtain ⟨b0, b1⟩ := stands_bound hs
      obtain ⟨_, _, _, _, _, _, z7, _⟩ := oneFault_zero hk.1
      obtain ⟨o, ho⟩ := Int.eq_ofNat_of_zero_le b0
      rw [ho, Int.toNat_natCast] at b1
      have hfo : fr ≤ o := by omega
      obtain ⟨i1, i2⟩ := back_take a r (i + 1) (o + oldN h.marks) (more + newN h.marks - oldN h.marks) b1 (by have := hk.2; rw [ho] at this; push_cast; exact this) hf
      rw [backDo_cons, ho, Int.toNat_natCast, repl]
      have e1 : (backDo a r).take fr = a.take fr := by
        have := congrArg (List.take fr) i1
        rwa [List.take_take, List.take_take, Nat.min_eq_left (by omega)] at this
      constructor
      · rw [List.append_assoc, List.take_append_of_le_length (by rw [List.length_take]; omega), List.take_take, Nat.min_eq_left hfo, e1]
      · rw [List.length_append, List.length_append, List.length_take]; omega
    · rw [if_neg hs] at hf; cases hf
theorem strictGo_back (a : List ByteArray) : ∀ (r : List Hunk) (i fr : Nat) (out : List ByteArray) (more : Int), fr ≤ a.length → hOk fr more r →
    strictGo a i fr out r = match firstClash a i r with
      | some k => ([], k, 6)
      | none => if 60 < (out ++ (backDo a r).drop fr).length then ([], 0, 3) else (out ++ (backDo a r).drop fr, 0, 0)
  | [], i, fr, out, more, h1, hk => by rw [firstClash, strictGo]; rfl
  | h :: r, i, fr, out, more, h1, hk => by
    rw [firstClash, strictGo]
    by_cases hs : standsB a h.old (oldOf h.marks) = true
    · rw [if_pos hs, if_pos hs]
      obtain ⟨b0, b1⟩ := stands_bound hs
      obtain ⟨_, _, _, _, _, _, z7, _⟩ := oneFault_zero hk.1
      obtain ⟨o, ho⟩ := Int.eq_ofNat_of_zero_le b0
      rw [ho, Int.toNat_natCast] at b1
      have hfo : fr ≤ o := by omega
      have hk2 : hOk ((o + oldN h.marks : Nat) : Int) (more + newN h.marks - oldN h.marks) r := by have := hk.2; rw [ho] at this; push_cast; exact this
      rw [ho, Int.toNat_natCast, strictGo_back a r (i + 1) (o + oldN h.marks) _ _ b1 hk2]
      cases hf : firstClash a (i + 1) r with
      | some k => rfl
      | none =>
        obtain ⟨i1, i2⟩ := back_take a r (i + 1) (o + oldN h.marks) _ b1 hk2 hf
        have e : out ++ (a.drop fr).take (o - fr) ++ newOf h.marks ++ (backDo a r).drop (o + oldN h.marks) = out ++ (backDo a (h :: r)).drop fr := by
          rw [backDo_cons, ho, Int.toNat_natCast, repl]
          have e1 : (backDo a r).take o = a.take o := by
            have := congrArg (List.take o) i1
            rwa [List.take_take, List.take_take, Nat.min_eq_left (by omega)] at this
          rw [e1, List.append_assoc, List.append_assoc, List.append_assoc, List.drop_append_of_le_length (by rw [List.length_take]; omega), List.drop_take]
        simp only [e]
    · rw [if_neg hs, if_neg hs]
theorem repl_length (a : List ByteArray) (at_ n : Nat) (l : List ByteArray) : (repl a at_ n l).length ≤ a.length + l.length := by
  unfold repl
  rw [List.length_append, List.length_append, List.length_take, List.length_drop]
  omega
theorem backDo_length (a : List ByteArray) : ∀ (r : List Hunk), (∀ x ∈ r, newN x.marks ≤ 120) → (backDo a r).length ≤ a.length + 120 * r.length
  | [], _ => by simp [backDo]
  | h :: r, hn => by
    have h1 := backDo_length a r (fun x hx => hn x (List.mem_cons_of_mem _ hx))
    have h2 := hn h (List.mem_cons_self ..)
    have h3 := repl_length (backDo a r) h.old.toNat (oldN h.marks) (newOf h.marks)
    rw [backDo_cons]
    have e : newN h.marks = (newOf h.marks).length := rfl
    simp only [List.length_cons]
    omega
theorem firstClash_none (a : List ByteArray) : ∀ (r : List Hunk) (i : Nat), firstClash a i r = none → ∀ x ∈ r, standsB a x.old (oldOf x.marks) = true
  | [], _, _, x, hx => by simp at hx
  | h :: r, i, hf, x, hx => by
    rw [firstClash] at hf
    by_cases hs : standsB a h.old (oldOf h.marks) = true
    · rw [if_pos hs] at hf
      rcases List.mem_cons.1 hx with rfl | hx
      · exact hs
      · exact firstClash_none a r (i + 1) hf x hx
    · rw [if_neg hs] at hf; cases hf
theorem hOk_drop : ∀ (l : List Hunk) (fin more : Int) (k : Nat), hOk fin more l → ∃ fin' more', hOk fin' more' (l.drop k) ∧ (0 ≤ fin → 0 ≤ fin')
  | [], fin, more, k, h => ⟨fin, more, by simpa using h, fun h => h⟩
  | x :: r, fin, more, 0, h => ⟨fin, more, h, fun h => h⟩
  | x :: r, fin, more, k + 1, h => by
    obtain ⟨_, _, z3, _⟩ := oneFault_zero h.1
    obtain ⟨f, m, h1, h2⟩ := hOk_drop r _ _ k h.2
    exact ⟨f, m, h1, fun _ => h2 (by omega)⟩
theorem hOk_old : ∀ (l : List Hunk) (fin more : Int), hOk fin more l → ∀ h ∈ l, 0 ≤ h.old ∧ h.old ≤ 60
  | [], _, _, _, h, hh => by simp at hh
  | x :: r, fin, more, hk, h, hh => by
    rcases List.mem_cons.1 hh with rfl | hh
    · obtain ⟨_, _, z3, _, z5, _⟩ := oneFault_zero hk.1
      exact ⟨z3, by omega⟩
    · exact hOk_old r _ _ hk.2 h hh
end Go.Proofs.YtjiaidchcldocaaGreatDoor
namespace Go.Proofs.YtjiaidchcldocaaGreatDoor
open Go.RowKit

theorem standsB_iff {a l : List ByteArray} {n : Nat} (h : n + l.length ≤ a.length) : standsB a n l = decide ((a.drop n).take l.length = l) := by
  unfold standsB
  have e1 : decide ((0 : Int) ≤ n) = true := by simp
  have e2 : decide ((n : Int) + l.length ≤ a.length) = true := by simp; omega
  rw [e1, e2]; simp
theorem stands_all {a l : List ByteArray} {n : Nat} (h : n + l.length ≤ a.length) (hf : ∀ k, k < l.length → a[n + k]? = l[k]?) : standsB a n l = true := by
  rw [standsB_iff h, decide_eq_true_eq]
  apply List.ext_getElem?
  intro k
  rw [List.getElem?_take]
  by_cases hk : k < l.length
  · rw [if_pos hk, List.getElem?_drop, hf k hk]
  · rw [if_neg hk, List.getElem?_eq_none (by omega)]
theorem stands_not {a l : List ByteArray} {n k : Nat} (h : n + l.length ≤ a.length) {x y : ByteArray} (hx : a[n + k]? = some x) (hy : l[k]? = some y) (hne : x ≠ y) : standsB a n l = false := by
  rw [standsB_iff h, decide_eq_false_iff_not]
  intro e
  have := congrArg (fun q => q[k]?) e
  simp only [List.getElem?_take, List.getElem?_drop] at this
  rw [if_pos (List.getElem?_eq_some_iff.1 hy).1, hx, hy] at this
  injection this with this
  exact hne this

set_option maxHeartbeats 1000000 in
set_option maxRecDepth 100000 in
theorem refStands_any (a l : List ByteArray) (at_ : Int) (v u : Value) (w : World) (ha : Rdv w Never v a) (hl : Rdv w Never u l) (h0 : -1000000 ≤ at_) (h1 : at_ ≤ 1000000) (hla : a.length ≤ 1000000) (hll : l.length ≤ 1000000) :
    Calls Tryz.prog 108 #[v, .int .i64 at_, u] w fun e w' => e = .returned (.bool (standsB a at_ l)) ∧ Chg Never w w' := by
  obtain ⟨b, cap, rfl, _, hcap, ha3⟩ := rdv_slice ha
  obtain ⟨c, cap', rfl, _, hcap', hl3⟩ := rdv_slice hl
  unfold maxLen at hcap hcap'
  by_cases c1 : at_ < 0
  · have E : standsB a at_ l = false := by unfold standsB; simp; omega
    rw [E]
    go_enter Tryz.func108, Tryz.ntmps108
    go_wp2_with fail
    go_ret
    exact ⟨rfl, Chg.refl _ _⟩
  · obtain ⟨n, rfl⟩ := Int.eq_ofNat_of_zero_le (show 0 ≤ at_ by omega)
    by_cases c2 : a.length < n + l.length
    · have E : standsB a n l = false := by unfold standsB; simp; omega
      rw [E]
      have t1 : decide ((a.length : Int) - l.length < n) = true := by simp; omega
      go_enter Tryz.func108, Tryz.ntmps108
      go_wp2_with fail
      go_ret
      exact ⟨rfl, Chg.refl _ _⟩
    · have hle : n + l.length ≤ a.length := by omega
      have t1 : decide ((a.length : Int) - l.length < n) = false := by simp; omega
      clear c2
      go_enter Tryz.func108, Tryz.ntmps108
      go_wp2_with fail
      go_loopw [7] (fun i wr => ∃ k : Nat, k ≤ l.length ∧ i = .int .i64 k ∧ Chg Never w wr ∧ Hid (∀ q, q < k → a[n + q]? = l[q]?)) (fun i _ => l.length - (intOf i).toNat)
      case atStart => exact ⟨0, Nat.zero_le _, rfl, Chg.refl _ _, fun q h => absurd h (Nat.not_lt_zero q)⟩
      case round =>
        obtain ⟨k, hk, rfl, hc, hf⟩ := hrel
        by_cases hlt : k < l.length
        · obtain ⟨y, hy⟩ : ∃ y, l[k]? = some y := ⟨l[k], by simp [hlt]⟩
          obtain ⟨x, hx⟩ : ∃ x, a[n + k]? = some x := ⟨a[n + k]'(by omega), by simp [show n + k < a.length by omega]⟩
          obtain ⟨b1, o1, rfl, _, _, hcx, hxs⟩ := elems_str ha3 hx
          obtain ⟨b2, o2, rfl, _, _, hcy, hys⟩ := elems_str hl3 hy
          have hcx := hc.cellNever hcx
          have hcy := hc.cellNever hcy
          have HX := Lib.hid hx
          have HY := Lib.hid hy
          have e1 : IntKind.i64.wrap ((n : Int) + k) = (n : Int) + k := IntWalk.i64_in _ (by omega)
          have e2 : (0 : Int) ≤ (n : Int) + k := by omega
          have e3 : (n : Int) + k < a.length := by omega
          have e4 : ((n : Int) + k).toNat = n + k := by omega
          have e5 : (k : Int) < l.length := by omega
          clear ha3 hl3 ha hl hx hy
          by_cases hxy : x = y
          · subst hxy
            go_wp2_with fail
            go_quiet (fail)
            go_wp2_with fail
            clear e1 e2 e3 e4 e5
            go_roundw
            case rel => exact ⟨k + 1, by omega, by go_num, hc.drewN _, fun q hq => by
              by_cases e : q = k
              · subst e; rw [HX.out, HY.out]
              · exact hf.out q (by omega)⟩
            case measure => simp [intOf] <;> omega
          · have hne := str_beq_false hxy
            have HN := Lib.hid (stands_not hle HX.out HY.out hxy)
            go_wp2_with fail
            go_quiet (fail)
            go_wp2_with fail
            go_ret
            exact ⟨by rw [HN.out]; rfl, hc.drewN _⟩
        · have HN := Lib.hid (stands_all hle (fun q hq => hf.out q (by omega)))
          go_wp2_with fail
          go_ret
          exact ⟨by rw [HN.out]; rfl, hc⟩

set_option maxHeartbeats 1000000 in
set_option maxRecDepth 100000 in
theorem replaced_any (a l : List ByteArray) (at_ n : Nat) (v u : Value) (w : World) (ha : Rdv w Never v a) (hl : Rdv w Never u l) (h0 : at_ + n ≤ a.length) (hla : a.length ≤ 1000000) (hll : l.length ≤ 1000000) :
    Calls Tryz.prog 109 #[v, .int .i64 at_, .int .i64 n, u] w fun e w' => ∃ r, e = .returned r ∧ Chg Never w w' ∧ Rdv w' (Old w.heap.size) r (repl a at_ n l) := by
  obtain ⟨b, cap, rfl, _, hcap, _⟩ := rdv_slice ha
  obtain ⟨c, cap', rfl, _, _, _⟩ := rdv_slice hl
  unfold maxLen at hcap
  obtain ⟨sb1, u0, u1, hrunH, hsub1⟩ := slice_gen (P := Tryz.prog) (t := 86) (by kernel_rfl) size_str ha 0 at_ (Nat.zero_le _) (by omega)
  have hrunH := fun (wx : World) => hrunH at_ wx rfl rfl
  clear u0 u1
  rw [Nat.sub_zero, Nat.sub_zero] at hrunH hsub1
  rw [List.drop_zero] at hsub1
  obtain ⟨sb2, u0, hrunL, u1, hsub2⟩ := slice_gen (P := Tryz.prog) (t := 86) (by kernel_rfl) size_str ha (at_ + n) a.length h0 (Nat.le_refl _)
  have hrunL := fun (wx : World) => hrunL ((at_ : Int) + n) wx (by push_cast; rfl) rfl
  clear u0 u1
  rw [List.take_of_length_le (by rw [List.length_drop]; omega)] at hsub2
  have hl1 : (a.take at_).length = at_ := by rw [List.length_take]; omega
  have hl2 : (a.drop (at_ + n)).length = a.length - (at_ + n) := List.length_drop
  have hle1 : ([] : List ByteArray).length + (a.take at_).length ≤ 1000000000 := by rw [hl1]; simp; omega
  have hle2 : ([] ++ a.take at_).length + l.length ≤ 1000000000 := by rw [List.nil_append, hl1]; omega
  have hle3 : ([] ++ a.take at_ ++ l).length + (a.drop (at_ + n)).length ≤ 1000000000 := by rw [List.nil_append, List.length_append, hl1, hl2]; omega
  go_enter Tryz.func109, Tryz.ntmps109
  go_wp2_with (first
    | (at_builtin; refine wpList_many (by rfl) _ _ 86 (by rfl) elemOk_str (O := Old w.heap.size) (l := []) (m := a.take at_) (by rfl) (by rfl) (own_nil _ _ _) hsub1 (rd_str_any _ _ _) (fun _ h => h) hle1 ?_; intro v1 w1 hw1 hd1; obtain ⟨s1, n1, c1, rfl⟩ := own_isSlice hw1; have hd1' : Chg Never w w1 := hd1.mono (fun q _ h => by cases h); have hl1' := hl.never hd1'; have hs1' := hsub2.never hd1'; have hol := old_lt hd1'; clear hd1 hsub1)
    | (at_builtin; refine wpList_many (by rfl) _ _ 86 (by rfl) elemOk_str (O := Old w.heap.size) (l := [] ++ a.take at_) (m := l) (by rfl) (by rfl) hw1 hl1' (rd_str_any _ _ _) hol hle2 ?_; intro v2 w2 hw2 hd2; obtain ⟨s2, n2, c2, rfl⟩ := own_isSlice hw2; have hd2' := own_step hd1' hw1 hd2; have hs2' := hsub2.never hd2'; have hol2 := old_lt hd2'; clear hd2 hl1' hs1' hol hw1 hd1')
    | (at_builtin; refine wpList_many (by rfl) _ _ 86 (by rfl) elemOk_str (O := Old w.heap.size) (l := [] ++ a.take at_ ++ l) (m := a.drop (at_ + n)) (by rfl) (by rfl) hw2 hs2' (rd_str_any _ _ _) hol2 hle3 ?_; intro v3 w3 hw3 hd3; obtain ⟨s3, n3, c3, rfl⟩ := own_isSlice hw3; have hd3' := own_step hd2' hw2 hd3; clear hd3 hs2' hol2 hw2 hd2'))
  go_ret
  exact ⟨_, rfl, hd3', hw3.rdv⟩
end Go.Proofs.YtjiaidchcldocaaGreatDoor
namespace Go.Proofs.YtjiaidchcldocaaGreatDoor
open Go.RowKit

theorem cells2_keep {w0 w w' : World} {b o : Nat} {u v : Value} (h : Chg Never w0 w ∧ w.cell? ⟨b, o, none⟩ = some u ∧ w.cell? ⟨b, o + 2, none⟩ = some v) (hc : Chg Never w w') :
    Chg Never w0 w' ∧ w'.cell? ⟨b, o, none⟩ = some u ∧ w'.cell? ⟨b, o + 2, none⟩ = some v := ⟨h.1.trans hc, hc.cellNever h.2.1, hc.cellNever h.2.2⟩
theorem firstClash_step {a : List ByteArray} {l : List Hunk} {k : Nat} {x : Hunk} (hx : l[k]? = some x) (hs : standsB a x.old (oldOf x.marks) = true) : firstClash a k (l.drop k) = firstClash a (k + 1) (l.drop (k + 1)) := by
  rw [drop_eq hx, firstClash, if_pos hs]
theorem firstClash_hit {a : List ByteArray} {l : List Hunk} {k : Nat} {x : Hunk} (hx : l[k]? = some x) (hs : standsB a x.old (oldOf x.marks) = false) : firstClash a k (l.drop k) = some k := by
  rw [drop_eq hx, firstClash, if_neg (by simp [hs])]
theorem strict_clash {a : List ByteArray} {l : List Hunk} {k : Nat} (h1 : linesFault a = 0) (h2 : hunksFault l = (0, 0)) (hf : firstClash a 0 l = some k) : strict a l = ([], k, 6) := by
  have hok := (hunksFault_zero (l := l) (by rw [h2])).2
  rw [strict, if_neg (by simp [h1]), if_neg (by simp [h2]), strictGo_back a l 0 0 [] 0 (Nat.zero_le _) hok, hf]
theorem strict_back {a : List ByteArray} {l : List Hunk} (h1 : linesFault a = 0) (h2 : hunksFault l = (0, 0)) (hf : firstClash a 0 l = none) : strict a l = if 60 < (backDo a l).length then ([], 0, 3) else (backDo a l, 0, 0) := by
  have hok := (hunksFault_zero (l := l) (by rw [h2])).2
  rw [strict, if_neg (by simp [h1]), if_neg (by simp [h2]), strictGo_back a l 0 0 [] 0 (Nat.zero_le _) hok, hf]
  simp
theorem firstClash_drop : ∀ (a : List ByteArray) (l : List Hunk) (i k : Nat), firstClash a i l = none → firstClash a (i + k) (l.drop k) = none
  | _, _, _, 0, h => by simpa using h
  | a, [], i, k + 1, h => by simp [firstClash]
  | a, x :: r, i, k + 1, h => by
    rw [firstClash] at h
    by_cases hs : standsB a x.old (oldOf x.marks) = true
    · rw [if_pos hs] at h
      have := firstClash_drop a r (i + 1) k h
      rw [List.drop_succ_cons, show i + (k + 1) = i + 1 + k by omega]
      exact this
    · rw [if_neg hs] at h; cases h
theorem back_step {a : List ByteArray} {l : List Hunk} {q : Nat} {x : Hunk} (h2 : hunksFault l = (0, 0)) (hf : firstClash a 0 l = none) (hx : l[q]? = some x) :
    ∃ o : Nat, x.old = o ∧ o ≤ 60 ∧ o + oldN x.marks ≤ (backDo a (l.drop (q + 1))).length ∧ backDo a (l.drop q) = repl (backDo a (l.drop (q + 1))) o (oldN x.marks) (newOf x.marks) := by
  have hok := (hunksFault_zero (l := l) (by rw [h2])).2
  have hs := firstClash_none a l 0 hf x (List.mem_of_getElem? hx)
  obtain ⟨b0, b1⟩ := stands_bound hs
  obtain ⟨o, ho⟩ := Int.eq_ofNat_of_zero_le b0
  rw [ho, Int.toNat_natCast] at b1
  obtain ⟨fin', more', hk, _⟩ := hOk_drop l 0 0 q hok
  rw [drop_eq hx] at hk
  obtain ⟨_, _, z3, _, z5, _⟩ := oneFault_zero hk.1
  have hk2 : hOk ((o + oldN x.marks : Nat) : Int) (more' + newN x.marks - oldN x.marks) (l.drop (q + 1)) := by have := hk.2; rw [ho] at this; push_cast; exact this
  have hfd := firstClash_drop a l 0 (q + 1) hf
  obtain ⟨_, i2⟩ := back_take a _ _ _ _ b1 hk2 hfd
  refine ⟨o, ho, by omega, i2, ?_⟩
  rw [drop_eq hx, backDo_cons, ho, Int.toNat_natCast]

set_option maxHeartbeats 4000000 in
set_option maxRecDepth 100000 in
theorem strictOf_any (a : List ByteArray) (l : List Hunk) (va vl : Value) (w : World) (ha : Rdv w Never va a) (hl : Rdv w Never vl l) :
    Calls Tryz.prog 60 #[va, vl] w fun e w' => ∃ r, e = .returned (.tuple #[r, .int .i64 (strict a l).2.1, .int .i64 (strict a l).2.2]) ∧ Chg Never w w' ∧ Rdv w' Never r (strict a l).1 := by
  by_cases h1 : linesFault a = 0
  · by_cases h2 : (hunksFault l).2 = 0
    · have h2' := hunksFault_first h2
      obtain ⟨hl60, hok⟩ := hunksFault_zero (l := l) h2
      have hla := linesFault_len h1
      have hmem := hOk_mem _ _ _ hok
      have ho60 := hOk_old _ _ _ hok
      have H1 := Lib.hid h1
      have H2 := Lib.hid h2'
      have t1 : (linesFault a != 0) = false := by rw [h1]; rfl
      have hn120 : ∀ x ∈ l, newN x.marks ≤ 120 := fun x hx => Nat.le_trans (newN_le _) (scriptFault_len (hmem x hx))
      obtain ⟨aa, acap, rfl, a1, a2, _⟩ := rdv_slice ha
      obtain ⟨la, lcap, rfl, l1, l2, l3⟩ := rdv_slice hl
      unfold maxLen at a2 l2
      clear h1 h2 h2' hok
      go_enter Tryz.func60, Tryz.ntmps60
      go_wp2_with fail
      refine (refLines_any a _ _ ha).mono ?_
      rintro e w1 ⟨rfl, hw⟩
      rw [H1.out]
      go_wp2_with fail
      refine (refHunks_any l _ _ (hl.never hw)).mono ?_
      rintro e w2 ⟨rfl, hc2⟩
      have hw := hw.trans hc2
      clear hc2
      rw [H2.out]
      go_wp2_with fail
      go_loopw [9] (fun i wr => ∃ k : Nat, k ≤ l.length ∧ i = .int .i64 k ∧ Chg Never w wr ∧ Hid (firstClash a 0 l = firstClash a k (l.drop k))) (fun i _ => l.length - (intOf i).toNat)
      case atStart => exact ⟨0, Nat.zero_le _, rfl, hw, rfl⟩
      case round =>
        clear hw
        obtain ⟨k, hk, rfl, hc, hf⟩ := hrel
        by_cases hlt : k < l.length
        · obtain ⟨x, hx⟩ : ∃ x, l[k]? = some x := ⟨l[k], by simp [hlt]⟩
          obtain ⟨b, off, mv, rfl, _, _, c0, c1, c2, hmv⟩ := elems_hunk l3 hx
          have c0 := hc.cellNever c0
          have c2 := hc.cellNever c2
          have hmv := hmv.never hc
          have hav := ha.never hc
          have HSF := Lib.hid (hmem x (List.mem_of_getElem? hx))
          have hml := scriptFault_len HSF.out
          have hol : (those x.marks 43).length ≤ 120 := Nat.le_trans (those_le _ _) hml
          obtain ⟨o0, o1⟩ := ho60 x (List.mem_of_getElem? hx)
          have HX := Lib.hid hx
          have b1 : (k : Int) < l.length := by omega
          clear hx c1 ha hl
          go_wp2_with fail
          cases hs : standsB a x.old (those x.marks 43) with
          | true =>
            have HS := Lib.hid hs
            clear hs l3
            refine wp_region_held_drew (S := fun w' => Chg Never wr w' ∧ w'.cell? ⟨b, off + k * 3, none⟩ = some (.int .i64 x.old) ∧ w'.cell? ⟨b, off + k * 3 + 2, none⟩ = some mv) (by kernel_rfl) ⟨(Chg.refl _ _).drew, c0, c2⟩ (fun hH => ?_)
            refine' tk 0 ?_
            refine' tk 1 ?_
            refine' tk 2 ?_
            refine' tk 3 ?_
            refine' tk 4 ?_
            refine' tk 5 ?_
            refine' tk 6 ?_
            refine' tk 7 ?_
            refine' tk 8 ?_
            refine' tk 9 ?_
            refine' tk 10 ?_
            refine wpAnyH_ready (rs := [11]) (by kernel_rfl) (by simp) ?_
            refine AllReadyH.cons rfl (fun K hK => ?_) AllReadyH.nil
            go_simp
            (go_at_call 102; refine (refOld_any x.marks _ _ (hmv.never (And.left hH)) HSF.out).mono ?_; rintro e wq ⟨rq, rfl, hcq, hrq⟩; have hrO := hrq.sub (O' := Never) (fun _ _ h => h.elim); clear hrq; obtain ⟨oa, oc, rfl, _, _, _⟩ := rdv_slice hrO; have hS2 := cells2_keep hH hcq; clear hH hcq)
            try go_wp2_with fail
            refine hK.out _ _ ?_ (fun hH => ?_)
            · assumption
            clear hK K
            try simp only [Act.put, List.setIfInBounds_toArray, List.set_cons_zero, List.set_cons_succ]
            refine wpAnyH_ready (rs := [12]) (by kernel_rfl) (by simp) ?_
            refine AllReadyH.cons rfl (fun K hK => ?_) AllReadyH.nil
            go_simp
            (go_at_call 108; refine (refStands_any a (those x.marks 43) x.old _ _ _ (hav.never (And.left hH)) hrO (by omega) (by omega) (by omega) (by omega)).mono ?_; rintro e wq2 ⟨rfl, hcq2⟩; have hS3 := cells2_keep hH hcq2; clear hH hcq2; rw [HS.out])
            try go_wp2_with fail
            refine hK.out _ _ ?_ (fun hH => ?_)
            · assumption
            clear hK K
            try simp only [Act.put, List.setIfInBounds_toArray, List.set_cons_zero, List.set_cons_succ]
            refine' tk 13 ?_
            refine wpAnyH_done (by kernel_rfl) ?_ _
            have hcF := hc.trans (And.left hH)
            clear hH c0 c2 hmv hav hrO
            go_wp2_with fail
            go_roundw
            case rel => exact ⟨k + 1, by omega, by go_num, hcF, by rw [Hid, hf.out]; exact firstClash_step HX.out HS.out⟩
            case measure => simp [intOf] <;> omega
          | false =>
            have HS := Lib.hid hs
            have HB := Lib.hid (strict_clash H1.out H2.out (by rw [hf.out]; exact firstClash_hit HX.out HS.out))
            clear hs l3
            refine wp_region_held_drew (S := fun w' => Chg Never wr w' ∧ w'.cell? ⟨b, off + k * 3, none⟩ = some (.int .i64 x.old) ∧ w'.cell? ⟨b, off + k * 3 + 2, none⟩ = some mv) (by kernel_rfl) ⟨(Chg.refl _ _).drew, c0, c2⟩ (fun hH => ?_)
            refine' tk 0 ?_
            refine' tk 1 ?_
            refine' tk 2 ?_
            refine' tk 3 ?_
            refine' tk 4 ?_
            refine' tk 5 ?_
            refine' tk 6 ?_
            refine' tk 7 ?_
            refine' tk 8 ?_
            refine' tk 9 ?_
            refine' tk 10 ?_
            refine wpAnyH_ready (rs := [11]) (by kernel_rfl) (by simp) ?_
            refine AllReadyH.cons rfl (fun K hK => ?_) AllReadyH.nil
            go_simp
            (go_at_call 102; refine (refOld_any x.marks _ _ (hmv.never (And.left hH)) HSF.out).mono ?_; rintro e wq ⟨rq, rfl, hcq, hrq⟩; have hrO := hrq.sub (O' := Never) (fun _ _ h => h.elim); clear hrq; obtain ⟨oa, oc, rfl, _, _, _⟩ := rdv_slice hrO; have hS2 := cells2_keep hH hcq; clear hH hcq)
            try go_wp2_with fail
            refine hK.out _ _ ?_ (fun hH => ?_)
            · assumption
            clear hK K
            try simp only [Act.put, List.setIfInBounds_toArray, List.set_cons_zero, List.set_cons_succ]
            refine wpAnyH_ready (rs := [12]) (by kernel_rfl) (by simp) ?_
            refine AllReadyH.cons rfl (fun K hK => ?_) AllReadyH.nil
            go_simp
            (go_at_call 108; refine (refStands_any a (those x.marks 43) x.old _ _ _ (hav.never (And.left hH)) hrO (by omega) (by omega) (by omega) (by omega)).mono ?_; rintro e wq2 ⟨rfl, hcq2⟩; have hS3 := cells2_keep hH hcq2; clear hH hcq2; rw [HS.out])
            try go_wp2_with fail
            refine hK.out _ _ ?_ (fun hH => ?_)
            · assumption
            clear hK K
            try simp only [Act.put, List.setIfInBounds_toArray, List.set_cons_zero, List.set_cons_succ]
            refine' tk 13 ?_
            refine wpAnyH_done (by kernel_rfl) ?_ _
            have hcF := hc.trans (And.left hH)
            clear hH c0 c2 hmv hav hrO
            go_wp2_with fail
            go_ret3
            exact ⟨.slice none 0 0, by rw [HB.out]; rfl, hcF, by rw [HB.out]; exact rdv_nil _ _⟩
        · obtain rfl : k = l.length := by omega
          have HFC : Hid (firstClash a 0 l = none) := by rw [Hid, hf.out, List.drop_length]; rfl
          have HST := Lib.hid (strict_back H1.out H2.out HFC.out)
          clear hf hlt hk
          go_wp2_with fail
          go_loopw [11, 12] (fun o i wr => ∃ (y : Int) (oa : Option Addr) (oc : Nat), -1 ≤ y ∧ y < l.length ∧ i = .int .i64 y ∧ Chg Never w wr ∧ o = .slice oa (backDo a (l.drop (y + 1).toNat)).length oc ∧ Rdv wr Never o (backDo a (l.drop (y + 1).toNat))) (fun _ i _ => (intOf i + 1).toNat)
          case atStart => exact ⟨(l.length : Int) - 1, _, _, by omega, by omega, rfl, hc, by rw [show ((l.length : Int) - 1 + 1).toNat = l.length by omega, List.drop_length]; rfl, by rw [show ((l.length : Int) - 1 + 1).toNat = l.length by omega, List.drop_length]; exact ha.never hc⟩
          case round =>
            clear hc
            obtain ⟨y, oa, oc, hy0, hy1, rfl, hc, rfl, hov⟩ := hrel
            by_cases hy : 0 ≤ y
            · obtain ⟨k, rfl⟩ := Int.eq_ofNat_of_zero_le hy
              rw [show ((k : Int) + 1).toNat = k + 1 by omega] at hov ⊢
              have hlt : k < l.length := by omega
              obtain ⟨x, hx⟩ : ∃ x, l[k]? = some x := ⟨l[k], by simp [hlt]⟩
              obtain ⟨b, off, mv, rfl, _, _, c0, c1, c2, hmv⟩ := elems_hunk l3 hx
              have c0 := hc.cellNever c0
              have c2 := hc.cellNever c2
              have hmv := hmv.never hc
              have HSF := Lib.hid (hmem x (List.mem_of_getElem? hx))
              have hml := scriptFault_len HSF.out
              have hol : (those x.marks 43).length ≤ 120 := Nat.le_trans (those_le _ _) hml
              have hnl : (those x.marks 45).length ≤ 120 := Nat.le_trans (those_le _ _) hml
              obtain ⟨o, ho, ho6, hole, hbk⟩ := back_step H2.out HFC.out hx
              have HBK := Lib.hid hbk
              have hbl := backDo_length a (l.drop (k + 1)) (fun z hz => hn120 z (List.mem_of_mem_drop hz))
              rw [List.length_drop] at hbl
              have eo : oldN x.marks = (those x.marks 43).length := rfl
              have en : newOf x.marks = those x.marks 45 := rfl
              rw [ho] at c0
              clear hx c1 l3 ha hl hbk
              generalize backDo a (l.drop (k + 1)) = BK at *
              go_wp2_with fail
              refine wp_region_held_drew (S := fun w' => Chg Never wr w' ∧ w'.cell? ⟨b, off + k * 3, none⟩ = some (.int .i64 (o : Int)) ∧ w'.cell? ⟨b, off + k * 3 + 2, none⟩ = some mv) (by kernel_rfl) ⟨(Chg.refl _ _).drew, c0, c2⟩ (fun hH => ?_)
              refine' tk 0 ?_
              refine' tk 1 ?_
              refine' tk 2 ?_
              refine' tk 3 ?_
              refine' tk 4 ?_
              refine' tk 5 ?_
              refine' tk 6 ?_
              refine' tk 7 ?_
              refine' tk 8 ?_
              refine' tk 9 ?_
              refine' tk 10 ?_
              refine' tk 13 ?_
              refine' tk 14 ?_
              refine' tk 15 ?_
              refine' tk 16 ?_
              refine' tk 17 ?_
              refine wpAnyH_ready (rs := [11]) (by kernel_rfl) (by simp) ?_
              refine AllReadyH.cons rfl (fun K hK => ?_) AllReadyH.nil
              go_simp
              (go_at_call 102; refine (refOld_any x.marks _ _ (hmv.never (And.left hH)) HSF.out).mono ?_; rintro e wq ⟨rq, rfl, hcq, hrq⟩; obtain ⟨qa, qc, rfl, _, _, _⟩ := rdv_slice hrq; have hS2 := cells2_keep hH hcq; clear hH hcq hrq)
              try go_wp2_with fail
              refine hK.out _ _ ?_ (fun hH => ?_)
              · assumption
              clear hK K
              try simp only [Act.put, List.setIfInBounds_toArray, List.set_cons_zero, List.set_cons_succ]
              refine' tk 12 ?_
              refine wpAnyH_ready (rs := [18]) (by kernel_rfl) (by simp) ?_
              refine AllReadyH.cons rfl (fun K hK => ?_) AllReadyH.nil
              go_simp
              (go_at_call 103; refine (refNew_any x.marks _ _ (hmv.never (And.left hH)) HSF.out).mono ?_; rintro e wq2 ⟨rq2, rfl, hcq2, hrq2⟩; have hrN := hrq2.sub (O' := Never) (fun _ _ h => h.elim); obtain ⟨na, nc, rfl, _, _, _⟩ := rdv_slice hrN; have hS3 := cells2_keep hH hcq2; clear hH hcq2 hrq2)
              try go_wp2_with fail
              refine hK.out _ _ ?_ (fun hH => ?_)
              · assumption
              clear hK K
              try simp only [Act.put, List.setIfInBounds_toArray, List.set_cons_zero, List.set_cons_succ]
              refine wpAnyH_ready (rs := [19]) (by kernel_rfl) (by simp) ?_
              refine AllReadyH.cons rfl (fun K hK => ?_) AllReadyH.nil
              go_simp
              (go_at_call 109; refine (replaced_any BK (those x.marks 45) o (those x.marks 43).length _ _ _ (hov.never (And.left hH)) hrN (by omega) (by omega) (by omega)).mono ?_; rintro e wq3 ⟨rq3, rfl, hcq3, hrq3⟩; have hrR := hrq3.sub (O' := Never) (fun _ _ h => h.elim); obtain ⟨ra, rc, rfl, _, _, _⟩ := rdv_slice hrR; have hS4 := cells2_keep hH hcq3; clear hH hcq3 hrq3)
              try go_wp2_with fail
              refine hK.out _ _ ?_ (fun hH => ?_)
              · assumption
              clear hK K
              try simp only [Act.put, List.setIfInBounds_toArray, List.set_cons_zero, List.set_cons_succ]
              refine' tk 20 ?_
              refine wpAnyH_done (by kernel_rfl) ?_ _
              have hcF := hc.trans (And.left hH)
              clear hH c0 c2 hmv hov hrN
              have hE : repl BK o (those x.marks 43).length (those x.marks 45) = backDo a (l.drop k) := by rw [HBK.out, eo, en]
              rw [hE] at hrR ⊢
              go_wp2_with fail
              go_roundw
              case rel => exact ⟨(k : Int) - 1, ra, rc, by omega, by omega, rfl, hcF, by rw [show ((k : Int) - 1 + 1).toNat = k by omega], by rw [show ((k : Int) - 1 + 1).toNat = k by omega]; exact hrR⟩
              case measure => simp [intOf] <;> omega
            · obtain rfl : y = -1 := by omega
              rw [show ((-1 : Int) + 1).toNat = 0 from rfl, List.drop_zero] at hov ⊢
              have hbl := backDo_length a l hn120
              generalize backDo a l = BK at *
              by_cases h60 : 60 < BK.length
              · have HE : Hid (strict a l = ([], 0, 3)) := by rw [Hid, HST.out, if_pos h60]
                go_wp2_with fail
                go_ret3
                exact ⟨.slice none 0 0, by rw [HE.out]; rfl, hc, by rw [HE.out]; exact rdv_nil _ _⟩
              · have HE : Hid (strict a l = (BK, 0, 0)) := by rw [Hid, HST.out, if_neg h60]
                go_wp2_with fail
                go_ret3
                exact ⟨_, by rw [HE.out]; rfl, hc, by rw [HE.out]; exact hov⟩
    · have HS : Hid (strict a l = ([], (hunksFault l).1, (hunksFault l).2)) := by unfold Hid strict; rw [if_neg (by simp [h1]), if_pos h2]
      have H1 := Lib.hid h1
      have t2 : ((hunksFault l).2 != 0) = true := by simp [h2]
      clear h1 h2
      go_enter Tryz.func60, Tryz.ntmps60
      go_wp2_with fail
      refine (refLines_any a _ _ ha).mono ?_
      rintro e w1 ⟨rfl, hw⟩
      rw [H1.out]
      go_wp2_with fail
      refine (refHunks_any l _ _ (hl.never hw)).mono ?_
      rintro e w2 ⟨rfl, hc2⟩
      have hw := hw.trans hc2
      clear hc2
      go_wp2_with fail
      go_ret3
      exact ⟨.slice none 0 0, by rw [HS.out]; rfl, hw, by rw [HS.out]; exact rdv_nil _ _⟩
  · have HS : Hid (strict a l = ([], 0, linesFault a)) := if_pos h1
    have t1 : (linesFault a != 0) = true := by simp [h1]
    clear h1
    go_enter Tryz.func60, Tryz.ntmps60
    go_wp2_with fail
    refine (refLines_any a _ _ ha).mono ?_
    rintro e w1 ⟨rfl, hw⟩
    go_wp2_with fail
    go_ret3
    exact ⟨.slice none 0 0, by rw [HS.out]; rfl, hw, by rw [HS.out]; exact rdv_nil _ _⟩
end Go.Proofs.YtjiaidchcldocaaGreatDoor
namespace Go.Proofs.YtjiaidchcldocaaGreatDoor
open Go.RowKit

theorem placeT_is {t : List File} (h : Sorted t) {p : ByteArray} (hi : isAt t p = true) : placeI t p = posOf t p := by
  unfold placeI; rw [placeOf_sorted h, if_pos hi]
theorem placeT_not {t : List File} (h : Sorted t) {p : ByteArray} (hi : isAt t p = false) : placeI t p = -1 := by
  unfold placeI; rw [placeOf_sorted h, if_neg (by rw [hi]; decide)]
def RefApPost (t : List File) (p : List Change) (w : World) (e : Ending) (w' : World) : Prop := ∃ r, e = .returned (.tuple #[r, .int .i64 (applyR t p).2.1, .int .i64 (applyR t p).2.2]) ∧ Chg Never w w' ∧ Rdv w' Never r (applyR t p).1
theorem rap_bad {t : List File} {p : List Change} {k : Nat} {e : Int} {w w' : World} (h : applyR t p = ([], k, e)) (hc : Chg Never w w') : RefApPost t p w (.returned (.tuple #[.slice none 0 0, .int .i64 k, .int .i64 e])) w' :=
  ⟨_, by rw [h], hc, by rw [h]; exact rdv_nil _ _⟩
theorem rap_ok {t R : List File} {p : List Change} {w w' : World} {r : Value} (h : applyR t p = (R, 0, 0)) (hc : Chg Never w w') (hr : Rdv w' Never r R) : RefApPost t p w (.returned (.tuple #[r, .int .i64 0, .int .i64 0])) w' :=
  ⟨r, by rw [h]; rfl, hc, by rw [h]; exact hr⟩
theorem apply_ret {t T : List File} {p : List Change} {k : Nat} {c : Change} {F : Int} (z : (treeFault t).2 = 0) (y : (patchFault p).2 = 0) (hG : applyGo k T (p.drop k) = applyGo 0 t p) (hd : p.drop k = c :: p.drop (k + 1)) (hst : (stepOf (look T c.path) c).2 = F) (hF : F ≠ 0) : applyR t p = ([], k, F) := by
  subst hst
  rw [applyR_go z y (hG.symm.trans (apply_bad hd hF)), if_pos hF]
theorem step_done {T : List File} {c : Change} {there : Bool} {L : List ByteArray} {x : Option (List ByteArray)} (hl : look T c.path = x) (h1 : x.isSome = there) (h2 : x.getD [] = L) : stepOf (look T c.path) c = (if (doneR there L c).2.1 = true then some (doneR there L c).1 else none, (doneR there L c).2.2) := by
  rw [hl, done_step, h1, h2]
set_option maxHeartbeats 8000000 in
set_option maxRecDepth 100000 in
theorem refApply_any (t : List File) (p : List Change) (vt vp : Value) (w : World) (ht : Rdv w Never vt t) (hp : Rdv w Never vp p) :
    Calls Tryz.prog 21 #[vt, vp] w fun e w' => RefApPost t p w e w' := by
  obtain ⟨ta, tcap, rfl, _, _, _⟩ := rdv_slice ht
  obtain ⟨pa, pcap, rfl, p1, p2, p3⟩ := rdv_slice hp
  unfold maxLen at p2
  by_cases z : (treeFault t).2 = 0
  · have Z := Lib.hid z
    by_cases y : (patchFault p).2 = 0
    · have Y := Lib.hid y
      have t8 := (treeFault_zero z).1
      have tsrt := Lib.hid (treeFault_zero z).2.2.1
      have pl := (patch_of y).1
      clear z y
      go_enter Tryz.func21, Tryz.ntmps21
      go_wp2_with fail
      refine (refTree_any t _ _ ht).mono ?_
      rintro e w1 ⟨rfl, hw⟩
      rw [Z.out]
      go_wp2_with fail
      refine (refPatch_any p _ _ (hp.never hw)).mono ?_
      rintro e w2 ⟨rfl, hc2⟩
      have hw := hw.trans hc2
      clear hc2
      rw [Y.out]
      have ht0 := ht.never hw
      go_wp2_with fail
      go_loopw [10, 11] (fun v i wr => ∃ (k : Nat) (T : List File), k ≤ p.length ∧ i = .int .i64 k ∧ Chg Never w wr ∧ Rdv wr Never v T ∧ Hid (Sorted T) ∧ T.length ≤ 8 + k ∧ Hid (applyGo k T (p.drop k) = applyGo 0 t p)) (fun _ i _ => p.length - (intOf i).toNat)
      case atStart => exact ⟨0, t, Nat.zero_le _, rfl, hw, ht0, tsrt, by omega, rfl⟩
      case round =>
        clear hw ht0
        rename World => wr
        obtain ⟨k, T, hk, rfl, hc, hT, hS, hTl, hG⟩ := hrel
        obtain ⟨oa, ocap, rfl, o1, o2, o3⟩ := rdv_slice hT
        unfold maxLen at o2
        by_cases hlt : k < p.length
        · obtain ⟨c, hx⟩ : ∃ c, p[k]? = some c := ⟨p[k], by simp [hlt]⟩
          obtain ⟨wh, pt, hs⟩ := c
          obtain ⟨pb, po, hv, hpo, _, _, c0, c1, c2, hpc, hhv⟩ := elems_change p3 hx
          subst hpo
          simp only at c0 c1 c2 hpc hhv
          obtain ⟨ha, hcap, rfl, _, _, _⟩ := rdv_slice hhv
          have hhv := Lib.hid hhv
          have c0 := hc.cellNever c0
          have c1 := hc.cellNever c1
          have c2 := hc.cellNever c2
          have HD := Lib.hid (drop_eq hx)
          obtain ⟨hA, d0, d1, d2⟩ := box1_change wr 85 wh pt (.slice ha hs.length hcap) _ rfl
          clear hx p3
          go_wp2_with fail
          generalize wr.alloc (.cells #[.int .i64 wh, .string pt, .slice ha hs.length hcap] 85) = wA at hA d0 d1 d2 ⊢
          clear c0 c1 c2
          refine (refPlace_any T pt _ _ (hT.never hA)).mono ?_
          rintro e w4 ⟨rfl, hc4⟩
          have hQ := hA.trans hc4
          have hcD := hc.trans hQ
          have hT := hT.never hQ
          have d0 := hc4.cellNever d0
          have d1 := hc4.cellNever d1
          have d2 := hc4.cellNever d2
          clear hA hc4
          cases hi : isAt T pt with
          | true =>
            obtain ⟨f, hf, _, hlk, hpos⟩ := find_is hS.out hi
            rw [placeT_is hS.out hi]
            have DS := Lib.hid (step_done (c := ⟨wh, pt, hs⟩) (there := true) (L := f.lines) hlk rfl rfl)
            obtain ⟨fb, fo, flv, rfl, _, _, _, f1, _, hfl⟩ := elems_file o3 hf
            have f1 := hQ.cellNever f1
            have hfl := hfl.never hQ
            obtain ⟨la, lc, rfl, _, _, _⟩ := rdv_slice hfl
            clear hi hf hlk o3 hQ
            by_cases k2 : wh = 2
            · subst k2
              have HE : Hid (applyR t p = ([], k, 6)) := apply_ret Z.out Y.out hG.out HD.out (by rw [show stepOf (look T pt) ⟨2, pt, hs⟩ = _ from DS.out, done_clash ⟨rfl, rfl⟩]) (by decide)
              clear hG DS
              go_wp2_with fail
              go_ret3
              exact rap_bad HE.out hcD
            · have t2 : (wh == 2) = false := by simp [k2]
              have t2' : (wh != 2) = true := by simp [k2]
              go_wp2_with fail
              refine (strictOf_any f.lines hs _ _ _ (hfl) (hhv.out.never hcD)).mono ?_
              rintro e w6 ⟨r6, rfl, hc6, hr6⟩
              have hcD := hcD.trans hc6
              have hT := hT.never hc6
              have d0 := hc6.cellNever d0
              have d1 := hc6.cellNever d1
              obtain ⟨sa, sc, rfl, _, _, _⟩ := rdv_slice hr6
              clear hc6
              by_cases zz : (strict f.lines hs).2.2 = 0
              · have hrw : ((strict f.lines hs).2.2 != 0) = false := by simp [zz]
                by_cases k3 : wh = 3
                · subst k3
                  by_cases h0 : (strict f.lines hs).1 = []
                  · have HDN : Hid (doneR true f.lines ⟨3, pt, hs⟩ = ([], false, 0)) := (done_good (there := true) (c := ⟨3, pt, hs⟩) (fun h => absurd (show (3 : Int) = 2 from h.1) (by decide)) (fun h => by cases h.2) zz (fun h => h.2 h0)).trans (by rw [show (strict f.lines (⟨3, pt, hs⟩ : Change).hunks).1 = [] from h0]; rfl)
                    have HSET : stepOf (look T pt) ⟨3, pt, hs⟩ = (none, 0) := by rw [show stepOf (look T pt) ⟨3, pt, hs⟩ = _ from DS.out, HDN.out]; rfl
                    have HNX : Hid (applyGo (k + 1) (dropAt T (posOf T pt)) (p.drop (k + 1)) = applyGo 0 t p) := by
                      have e := apply_step (T := T) HD.out (by rw [HSET])
                      rw [show (⟨3, pt, hs⟩ : Change).path = pt from rfl, HSET] at e
                      rw [Hid, ← hG.out]
                      exact e.symm
                    have HSS : Hid (Sorted (dropAt T (posOf T pt))) := setAt_sorted (y := none) hS.out (step_at hS.out HSET)
                    have hdl := drop_len hpos
                    rw [zz]
                    rw [h0] at hr6 ⊢
                    clear HSET hG zz h0 hrw DS k2 t2 t2' f1
                    go_wp2_with fail
                    refine (refDrop_any T (posOf T pt) _ _ hT hpos (by omega)).mono ?_
                    rintro e w7 ⟨r7, rfl, hc7, hr7⟩
                    have hcD := hcD.trans hc7
                    clear hc7 d0 d1 d2 hr6
                    go_wp2_with fail
                    go_roundw
                    case rel => exact ⟨k + 1, _, by omega, by go_num, hcD, hr7, HSS, by omega, HNX⟩
                    case measure => simp [intOf] <;> omega
                  · have HE : Hid (applyR t p = ([], k, 6)) := apply_ret Z.out Y.out hG.out HD.out (by rw [show stepOf (look T pt) ⟨3, pt, hs⟩ = _ from DS.out, done_left (there := true) (c := ⟨3, pt, hs⟩) (fun h => absurd (show (3 : Int) = 2 from h.1) (by decide)) (fun h => by cases h.2) zz ⟨rfl, h0⟩]) (by decide)
                    have hpos : 0 < (strict f.lines hs).1.length := List.length_pos_iff.2 h0
                    rw [zz]
                    clear hG DS zz h0 hrw k2 t2 t2' f1
                    go_wp2_with fail
                    go_ret3
                    exact rap_bad HE.out hcD
                · have t3 : (wh == 3) = false := by simp [k3]
                  have t3' : (wh != 3) = true := by simp [k3]
                  have HDN : Hid (doneR true f.lines ⟨wh, pt, hs⟩ = ((strict f.lines hs).1, true, 0)) := (done_good (there := true) (c := ⟨wh, pt, hs⟩) (fun h => k2 h.1) (fun h => by cases h.2) zz (fun h => k3 h.1)).trans (by rw [show decide ((⟨wh, pt, hs⟩ : Change).what ≠ 3) = true from decide_eq_true k3])
                  rw [zz]
                  clear zz k2 k3 hrw f1
                  have HSET : stepOf (look T pt) ⟨wh, pt, hs⟩ = (some (strict f.lines hs).1, 0) := by rw [show stepOf (look T pt) ⟨wh, pt, hs⟩ = _ from DS.out, HDN.out]; rfl
                  have HNX : Hid (applyGo (k + 1) (setAt T pt (some (strict f.lines hs).1)) (p.drop (k + 1)) = applyGo 0 t p) := by
                    have e := apply_step (T := T) HD.out (by rw [HSET])
                    rw [show (⟨wh, pt, hs⟩ : Change).path = pt from rfl, HSET] at e
                    rw [Hid, ← e]
                    exact hG.out
                  have HSS : Hid (Sorted (setAt T pt (some (strict f.lines hs).1))) := setAt_sorted hS.out (fun e => by cases e)
                  have HPL : Hid (putLoop ⟨pt, (strict f.lines hs).1⟩ false T = setAt T pt (some (strict f.lines hs).1)) := putLoop_sorted _ _ hS.out
                  have HLN : Hid ((setAt T pt (some (strict f.lines hs).1)).length ≤ T.length + 1) := by
                    have := putAt_len hS.out ⟨pt, (strict f.lines hs).1⟩
                    show (putAt T ⟨pt, (strict f.lines hs).1⟩).length ≤ _
                    rw [this]; split <;> omega
                  clear HSET hG
                  go_wp2_with fail
                  refine (refPut_any T ⟨pt, (strict f.lines hs).1⟩ _ _ _ hT hr6 hpc (by omega)).mono ?_
                  rintro e w7 ⟨r7, rfl, hc7, hr7⟩
                  rw [HPL.out] at hr7
                  have hcD := hcD.trans hc7
                  have hle := HLN.out
                  clear hc7 d0 d1 hr6
                  go_wp2_with fail
                  go_roundw
                  case rel => exact ⟨k + 1, _, by omega, by go_num, hcD, hr7, HSS, by omega, HNX⟩
                  case measure => simp [intOf] <;> omega
              · have HE : Hid (applyR t p = ([], k, (strict f.lines hs).2.2)) := apply_ret Z.out Y.out hG.out HD.out (by rw [show stepOf (look T pt) ⟨wh, pt, hs⟩ = _ from DS.out, done_bad (there := true) (c := ⟨wh, pt, hs⟩) (fun h => k2 h.1) (fun h => by cases h.2) zz]) zz
                have z0 : ((strict f.lines hs).2.2 == 0) = false := by simp [zz]
                have z0' : ((strict f.lines hs).2.2 != 0) = true := by simp [zz]
                clear hG DS zz k2 f1
                go_wp2_with fail
                go_ret3
                exact rap_bad HE.out hcD
          | false =>
            obtain ⟨hlk, _⟩ := find_not hS.out hi
            rw [placeT_not hS.out hi]
            have DS := Lib.hid (step_done (c := ⟨wh, pt, hs⟩) (there := false) (L := []) hlk rfl rfl)
            clear hi hlk o3 hQ
            by_cases k2 : wh = 2
            · subst k2
              go_wp2_with fail
              refine (strictOf_any ([] : List ByteArray) hs _ _ _ ((rdv_nil _ _)) (hhv.out.never hcD)).mono ?_
              rintro e w6 ⟨r6, rfl, hc6, hr6⟩
              have hcD := hcD.trans hc6
              have hT := hT.never hc6
              have d0 := hc6.cellNever d0
              have d1 := hc6.cellNever d1
              obtain ⟨sa, sc, rfl, _, _, _⟩ := rdv_slice hr6
              clear hc6
              by_cases zz : (strict [] hs).2.2 = 0
              · have HDN : Hid (doneR false [] ⟨2, pt, hs⟩ = ((strict [] hs).1, true, 0)) := done_good (there := false) (c := ⟨2, pt, hs⟩) (fun h => by cases h.2) (fun h => h.1 rfl) zz (fun h => absurd (show (2 : Int) = 3 from h.1) (by decide))
                rw [zz]
                clear zz
                have HSET : stepOf (look T pt) ⟨2, pt, hs⟩ = (some (strict [] hs).1, 0) := by rw [show stepOf (look T pt) ⟨2, pt, hs⟩ = _ from DS.out, HDN.out]; rfl
                have HNX : Hid (applyGo (k + 1) (setAt T pt (some (strict [] hs).1)) (p.drop (k + 1)) = applyGo 0 t p) := by
                  have e := apply_step (T := T) HD.out (by rw [HSET])
                  rw [show (⟨2, pt, hs⟩ : Change).path = pt from rfl, HSET] at e
                  rw [Hid, ← e]
                  exact hG.out
                have HSS : Hid (Sorted (setAt T pt (some (strict [] hs).1))) := setAt_sorted hS.out (fun e => by cases e)
                have HPL : Hid (putLoop ⟨pt, (strict [] hs).1⟩ false T = setAt T pt (some (strict [] hs).1)) := putLoop_sorted _ _ hS.out
                have HLN : Hid ((setAt T pt (some (strict [] hs).1)).length ≤ T.length + 1) := by
                  have := putAt_len hS.out ⟨pt, (strict [] hs).1⟩
                  show (putAt T ⟨pt, (strict [] hs).1⟩).length ≤ _
                  rw [this]; split <;> omega
                clear HSET hG
                go_wp2_with fail
                refine (refPut_any T ⟨pt, (strict [] hs).1⟩ _ _ _ hT hr6 hpc (by omega)).mono ?_
                rintro e w7 ⟨r7, rfl, hc7, hr7⟩
                rw [HPL.out] at hr7
                have hcD := hcD.trans hc7
                have hle := HLN.out
                clear hc7 d0 d1 hr6
                go_wp2_with fail
                go_roundw
                case rel => exact ⟨k + 1, _, by omega, by go_num, hcD, hr7, HSS, by omega, HNX⟩
                case measure => simp [intOf] <;> omega
              · have HE : Hid (applyR t p = ([], k, (strict [] hs).2.2)) := apply_ret Z.out Y.out hG.out HD.out (by rw [show stepOf (look T pt) ⟨2, pt, hs⟩ = _ from DS.out]; show (doneR false [] _).2.2 = _; rw [done_bad (there := false) (c := ⟨2, pt, hs⟩) (fun h => by cases h.2) (fun h => h.1 rfl) zz]) zz
                have z0 : ((strict [] hs).2.2 == 0) = false := by simp [zz]
                have z0' : ((strict [] hs).2.2 != 0) = true := by simp [zz]
                clear hG DS zz
                go_wp2_with fail
                go_ret3
                exact rap_bad HE.out hcD
            · have HE : Hid (applyR t p = ([], k, 4)) := apply_ret Z.out Y.out hG.out HD.out (by rw [show stepOf (look T pt) ⟨wh, pt, hs⟩ = _ from DS.out]; show (doneR false [] _).2.2 = _; rw [done_none ⟨k2, rfl⟩]) (by decide)
              have t2 : (wh == 2) = false := by simp [k2]
              have t2' : (wh != 2) = true := by simp [k2]
              clear hG DS k2
              go_wp2_with fail
              go_ret3
              exact rap_bad HE.out hcD
        · obtain rfl : k = p.length := by omega
          have hGo := hG.out
          rw [apply_end] at hGo
          have hR := applyR_go Z.out Y.out hGo.symm
          rw [if_neg (by decide)] at hR
          by_cases h8 : 8 < T.length
          · rw [if_pos h8] at hR
            have E := Lib.hid (rap_bad (k := 0) hR hc)
            clear hR hGo hG
            go_wp2_with fail
            go_ret3
            exact E.out
          · rw [if_neg h8] at hR
            have HR := Lib.hid hR
            clear hR hGo hG
            go_wp2_with fail
            go_ret3
            exact rap_ok HR.out hc hT
    · have HE := Lib.hid (applyR_patch z y)
      have Z := Lib.hid z
      have y0 : ((patchFault p).2 == 0) = false := by simp [y]
      have y0' : ((patchFault p).2 != 0) = true := by simp [y]
      clear z y
      go_enter Tryz.func21, Tryz.ntmps21
      go_wp2_with fail
      refine (refTree_any t _ _ ht).mono ?_
      rintro e w1 ⟨rfl, hw⟩
      rw [Z.out]
      go_wp2_with fail
      refine (refPatch_any p _ _ (hp.never hw)).mono ?_
      rintro e w2 ⟨rfl, hc2⟩
      go_wp2_with fail
      go_ret3
      exact rap_bad HE.out (hw.trans hc2)
  · have HE := Lib.hid (applyR_tree (p := p) z)
    have z0 : ((treeFault t).2 == 0) = false := by simp [z]
    have z0' : ((treeFault t).2 != 0) = true := by simp [z]
    clear z
    go_enter Tryz.func21, Tryz.ntmps21
    go_wp2_with fail
    refine (refTree_any t _ _ ht).mono ?_
    rintro e w1 ⟨rfl, hw⟩
    go_wp2_with fail
    go_ret3
    exact rap_bad HE.out hw
end Go.Proofs.YtjiaidchcldocaaGreatDoor
namespace Go.Proofs.YtjiaidchcldocaaGreatDoor
open Go.RowKit

set_option maxHeartbeats 1000000 in
set_option maxRecDepth 100000 in
theorem mails_same (l : List Mail) (v u : Value) (w : World) (h : Rdv w Never v l) (g : Rdv w Never u l) :
    Calls Tryz.prog 18 #[v, u] w fun e w' => e = .returned (.bool true) ∧ Chg Never w w' := by
  obtain ⟨a, cap, rfl, h1, h2, h3⟩ := rdv_slice h
  obtain ⟨c, cap', rfl, g1, g2, g3⟩ := rdv_slice g
  unfold maxLen at h2 g2
  go_enter Tryz.func18, Tryz.ntmps18
  go_wp2_with fail
  go_loopw [5] (fun i wr => ∃ k : Nat, k ≤ l.length ∧ i = .int .i64 k ∧ Chg Never w wr) (fun i _ => l.length - (intOf i).toNat)
  case atStart => exact ⟨0, Nat.zero_le _, rfl, Chg.refl _ _⟩
  case round =>
    obtain ⟨k, hk, rfl, hc⟩ := hrel
    rename World => wr
    by_cases hlt : k < l.length
    · obtain ⟨x, hx⟩ : ∃ x, l[k]? = some x := ⟨l[k], by simp [hlt]⟩
      obtain ⟨b, off, v1, rfl, _, _, c0, c1, c2, c3, _, _, _, hv1⟩ := elems_mail h3 hx
      obtain ⟨b', off', v2, rfl, _, _, d0, d1, d2, d3, _, _, _, hv2⟩ := elems_mail g3 hx
      have c0 := hc.cellNever c0
      have c1 := hc.cellNever c1
      have c2 := hc.cellNever c2
      have c3 := hc.cellNever c3
      have d0 := hc.cellNever d0
      have d1 := hc.cellNever d1
      have d2 := hc.cellNever d2
      have d3 := hc.cellNever d3
      have hr1 : ∀ n, (convert 29 9 v1).run Tryz.prog (wr.drewN n) = .ok (.string (toB x.body)) (wr.drewN n) := fun n => conv_str ((hv1.never hc).never ((Chg.refl Never wr).drewN n))
      have hr2 : ∀ n, (convert 29 9 v2).run Tryz.prog (wr.drewN n) = .ok (.string (toB x.body)) (wr.drewN n) := fun n => conv_str ((hv2.never hc).never ((Chg.refl Never wr).drewN n))
      have b1 : (k : Int) < l.length := by omega
      obtain ⟨xs, hxs⟩ : ∃ y, x.sender = y := ⟨_, rfl⟩
      obtain ⟨xu, hxu⟩ : ∃ y, x.subject = y := ⟨_, rfl⟩
      obtain ⟨xi, hxi⟩ : ∃ y, x.ident = y := ⟨_, rfl⟩
      obtain ⟨xb, hxb⟩ : ∃ y, toB x.body = y := ⟨_, rfl⟩
      rw [hxs] at c0 d0
      rw [hxu] at c1 d1
      rw [hxi] at c2 d2
      simp only [hxb] at hr1 hr2
      have q1 : (xs.toList != xs.toList) = false := by simp
      have q2 : (xu.toList != xu.toList) = false := by simp
      have q3 : (xi.toList != xi.toList) = false := by simp
      have q4 : (xb.toList != xb.toList) = false := by simp
      clear hx h3 g3 h g hv1 hv2 hxs hxu hxi hxb
      go_wp2_with fail
      go_quiet (fail)
      go_wp2_with fail
      go_roundw
      case rel => exact ⟨k + 1, by omega, by go_num, hc.drewN _⟩
      case measure => simp [intOf]; omega
    · go_wp2_with fail
      go_ret
      exact ⟨rfl, hc⟩
end Go.Proofs.YtjiaidchcldocaaGreatDoor
namespace Go.Proofs.YtjiaidchcldocaaGreatDoor
open Go.RowKit

set_option maxHeartbeats 1000000 in
set_option maxRecDepth 100000 in
theorem trees_any (l m : List File) (v u : Value) (w : World) (h : Rdv w Never v l) (g : Rdv w Never u m) :
    Calls Tryz.prog 23 #[v, u] w fun e w' => e = .returned (.bool (decide (l = m))) ∧ Chg Never w w' := by
  obtain ⟨a, cap, rfl, h1, h2, h3⟩ := rdv_slice h
  obtain ⟨c, cap', rfl, g1, g2, g3⟩ := rdv_slice g
  unfold maxLen at h2 g2
  by_cases h4 : l.length = m.length
  · have h4' : ((l.length : Int) != m.length) = false := by simp [h4]
    have H4 := Lib.hid h4
    clear h4
    go_enter Tryz.func23, Tryz.ntmps23
    go_wp2_with fail
    go_loopw [5] (fun i wr => ∃ k : Nat, k ≤ l.length ∧ i = .int .i64 k ∧ Hid (l.take k = m.take k) ∧ Chg Never w wr) (fun i _ => l.length - (intOf i).toNat)
    case atStart => exact ⟨0, Nat.zero_le _, rfl, by simp [Hid], Chg.refl _ _⟩
    case round =>
      obtain ⟨k, hk, rfl, hf, hc⟩ := hrel
      by_cases hlt : k < l.length
      · obtain ⟨x, hx⟩ : ∃ x, l[k]? = some x := ⟨l[k], by simp [hlt]⟩
        obtain ⟨y, hy⟩ : ∃ y, m[k]? = some y := ⟨m[k]'(by rw [← H4.out]; exact hlt), by simp [H4.out ▸ hlt]⟩
        obtain ⟨b, off, mv, rfl, _, _, c0, c1, _, hmv⟩ := elems_file h3 hx
        obtain ⟨b', off', mv', rfl, _, _, d0, d1, _, hmv'⟩ := elems_file g3 hy
        have C0 := Lib.hid c0
        have D0 := Lib.hid d0
        have c1 := hc.cellNever c1
        have d1 := hc.cellNever d1
        have hmv := hmv.never hc
        have hmv' := hmv'.never hc
        clear h3 g3 h g c0 d0
        have hlm : k < m.length := by rw [← H4.out]; exact hlt
        have HX := Lib.hid hx
        have HY := Lib.hid hy
        clear hx hy
        have b1 : (k : Int) < l.length := by omega
        have b2 : (k : Int) < m.length := by omega
        go_wp2_with fail
        refine wp_region_still_tail 10 (by kernel_rfl) (by kernel_rfl) ?_
        simp only [List.take_succ_cons, List.take_zero, List.drop_succ_cons, List.drop_zero]
        change wpStill _ _ wr.drew _ _ _
        repeat still_step
        refine wpStill_nil ?_
        change wpList _ _ _ _ _ wr.drew
        have hcd : Chg Never w wr.drew := hc.drew
        have hmd := hmv.never ((Chg.refl Never wr).drew)
        have hmd' := hmv'.never ((Chg.refl Never wr).drew)
        generalize wr.drew = w3 at hcd hmd hmd'
        clear hmv hmv' c1 d1 hc
        go_wp2_with fail
        refine (texts_any x.lines y.lines _ _ _ hmd hmd').mono ?_
        rintro e w4 ⟨rfl, hc4⟩
        have hc5 := hcd.trans hc4
        have c0 := hc5.cellNever C0.out
        have d0 := hc5.cellNever D0.out
        clear hmd hmd' hcd hc4
        by_cases hls : x.lines = y.lines
        · rw [decide_eq_true hls]
          by_cases hpp : x.path = y.path
          · have hxy : x = y := by
              cases x; cases y
              simp only at hls hpp
              rw [hls, hpp]
            subst hxy
            go_wp2_with fail
            go_quiet (fail)
            go_wp2_with fail
            go_roundw
            case rel => exact ⟨k + 1, by omega, by go_num, take_same hf HX.out HY.out, hc5.drewN _⟩
            case measure => simp [intOf] <;> omega
          · have hxy : x ≠ y := fun e => hpp (by rw [e])
            have t1 := str_beq_false hpp
            have HN := Lib.hid (decide_eq_false (ne_of_get HX.out HY.out hxy))
            clear hls hpp hxy
            go_wp2_with fail
            go_quiet (fail)
            go_wp2_with fail
            go_ret
            exact ⟨by rw [HN.out]; rfl, hc5.drewN _⟩
        · have hxy : x ≠ y := fun e => hls (by rw [e])
          have HN := Lib.hid (decide_eq_false (ne_of_get HX.out HY.out hxy))
          rw [decide_eq_false hls]
          clear hls hxy
          go_wp2_with fail
          go_quiet (fail)
          go_wp2_with fail
          go_ret
          exact ⟨by rw [HN.out]; rfl, hc5.drewN _⟩
      · go_wp2_with fail
        go_ret
        have E : l = m := by
          have := hf.out
          rw [List.take_of_length_le (by omega), List.take_of_length_le (by rw [← H4.out]; omega)] at this
          exact this
        exact ⟨by rw [decide_eq_true E]; rfl, hc⟩
  · have h4' : ((l.length : Int) != m.length) = true := by simp; omega
    go_enter Tryz.func23, Tryz.ntmps23
    go_wp2_with fail
    go_ret
    exact ⟨by rw [decide_eq_false (fun e => h4 (by rw [e]))]; rfl, Chg.refl _ _⟩
end Go.Proofs.YtjiaidchcldocaaGreatDoor
namespace Go.Proofs.YtjiaidchcldocaaGreatDoor
open Go.RowKit

end Go.Proofs.YtjiaidchcldocaaGreatDoor
namespace Go.Proofs.YtjiaidchcldocaaGreatDoor
open Go.RowKit

set_option maxHeartbeats 1000000 in
set_option maxRecDepth 100000 in
theorem series_any (l m : List (List Change)) (v u : Value) (w : World) (h : Rdv w Never v l) (g : Rdv w Never u m) :
    Calls Tryz.prog 14 #[v, u] w fun e w' => e = .returned (.bool (decide (l = m))) ∧ Chg Never w w' := by
  obtain ⟨a, cap, rfl, h1, h2, h3⟩ := rdv_slice h
  obtain ⟨c, cap', rfl, g1, g2, g3⟩ := rdv_slice g
  unfold maxLen at h2 g2
  by_cases h4 : l.length = m.length
  · have h4' : ((l.length : Int) != m.length) = false := by simp [h4]
    have H4 := Lib.hid h4
    clear h4
    go_enter Tryz.func14, Tryz.ntmps14
    go_wp2_with fail
    go_loopw [5] (fun i wr => ∃ k : Nat, k ≤ l.length ∧ i = .int .i64 k ∧ Hid (l.take k = m.take k) ∧ Chg Never w wr) (fun i _ => l.length - (intOf i).toNat)
    case atStart => exact ⟨0, Nat.zero_le _, rfl, by simp [Hid], Chg.refl _ _⟩
    case round =>
      obtain ⟨k, hk, rfl, hf, hc⟩ := hrel
      by_cases hlt : k < l.length
      · obtain ⟨x, hx⟩ : ∃ x, l[k]? = some x := ⟨l[k], by simp [hlt]⟩
        obtain ⟨y, hy⟩ : ∃ y, m[k]? = some y := ⟨m[k]'(by rw [← H4.out]; exact hlt), by simp [H4.out ▸ hlt]⟩
        obtain ⟨b, off, mv, rfl, _, _, c0, hmv⟩ := elems_list h3 hx
        obtain ⟨b', off', mv', rfl, _, _, d0, hmv'⟩ := elems_list g3 hy
        have c0 := hc.cellNever c0
        have d0 := hc.cellNever d0
        have hmv := hmv.never hc
        have hmv' := hmv'.never hc
        clear h3 g3 h g
        have hlm : k < m.length := by rw [← H4.out]; exact hlt
        have HX := Lib.hid hx
        have HY := Lib.hid hy
        clear hx hy
        have b1 : (k : Int) < l.length := by omega
        have b2 : (k : Int) < m.length := by omega
        go_wp2_with fail
        refine wp_region_still_tail 8 (by kernel_rfl) (by kernel_rfl) ?_
        simp only [List.take_succ_cons, List.take_zero, List.drop_succ_cons, List.drop_zero]
        change wpStill _ _ wr.drew _ _ _
        repeat still_step
        refine wpStill_nil ?_
        change wpList _ _ _ _ _ wr.drew
        have hcd : Chg Never w wr.drew := hc.drew
        have hmd := hmv.never ((Chg.refl Never wr).drew)
        have hmd' := hmv'.never ((Chg.refl Never wr).drew)
        generalize wr.drew = w3 at hcd hmd hmd'
        clear hmv hmv' c0 d0 hc
        go_wp2_with fail
        refine (patches_any x y _ _ _ hmd hmd').mono ?_
        rintro e w4 ⟨rfl, hc4⟩
        have hc5 := hcd.trans hc4
        by_cases hxy : x = y
        · have HXY := Lib.hid hxy
          rw [decide_eq_true hxy]
          clear hxy
          go_wp2_with fail
          go_roundw
          case rel => exact ⟨k + 1, by omega, by go_num, take_same hf HX.out (by rw [HXY.out]; exact HY.out), hc5⟩
          case measure => simp [intOf] <;> omega
        · have HN := Lib.hid (decide_eq_false (ne_of_get HX.out HY.out hxy))
          rw [decide_eq_false hxy]
          clear hxy
          go_wp2_with fail
          go_ret
          exact ⟨by rw [HN.out]; rfl, hc5⟩
      · go_wp2_with fail
        go_ret
        have E : l = m := by
          have := hf.out
          rwa [List.take_of_length_le (by omega), List.take_of_length_le (by rw [← H4.out]; omega)] at this
        exact ⟨by rw [decide_eq_true E]; rfl, hc⟩
  · have h4' : ((l.length : Int) != m.length) = true := by simp; omega
    go_enter Tryz.func14, Tryz.ntmps14
    go_wp2_with fail
    go_ret
    exact ⟨by rw [decide_eq_false (fun e => h4 (by rw [e]))]; rfl, Chg.refl _ _⟩
end Go.Proofs.YtjiaidchcldocaaGreatDoor
