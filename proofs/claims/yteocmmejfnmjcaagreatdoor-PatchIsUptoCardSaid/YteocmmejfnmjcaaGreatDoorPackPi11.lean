/-
  PARTS: THE WALK of patch.Apply.; THE WALK of the document's ApplyOf.; THE WALKS of errors.Join of no error, and of patch.Turn.; THE WALK of the document's TurnOf.; THE WALK of handstitchsame.Trees.
-/
import Derived.Test.YteocmmejfnmjcaaGreatDoorPackPi9
import Derived.Test.YteocmmejfnmjcaaGreatDoorPackPi6
import Derived.Test.YteocmmejfnmjcaaGreatDoorPackPi10
import Derived.Test.YteocmmejfnmjcaaGreatDoorPackPi8
import Derived.Test.YteocmmejfnmjcaaGreatDoorPackPi4
import Derived.Test.YteocmmejfnmjcaaGreatDoorPackPi5
import Derived.Test.YteocmmejfnmjcaaGreatDoorPackPi3
import Derived.Deep.RegionHeld3
import Derived.StillTailTactics
namespace Go.Proofs.YteocmmejfnmjcaaGreatDoor
open Go.RowKit

theorem apply_step {T : List File} {p : List Change} {k : Nat} {c : Change} (hd : p.drop k = c :: p.drop (k + 1)) (hz : (stepOf (look T c.path) c).2 = 0) : applyGo k T (p.drop k) = applyGo (k + 1) (setAt T c.path (stepOf (look T c.path) c).1) (p.drop (k + 1)) := by
  rw [hd, applyGo, if_neg (by rw [hz]; decide)]
theorem apply_bad {T : List File} {p : List Change} {k : Nat} {c : Change} (hd : p.drop k = c :: p.drop (k + 1)) (hz : (stepOf (look T c.path) c).2 ≠ 0) : applyGo k T (p.drop k) = ([], k, (stepOf (look T c.path) c).2) := by
  rw [hd, applyGo, if_pos hz]
theorem apply_end {T : List File} {p : List Change} : applyGo p.length T (p.drop p.length) = (T, 0, 0) := by rw [List.drop_length]; rfl
theorem find_is {T : List File} (hs : Sorted T) {p : ByteArray} (h : isAt T p = true) : ∃ f, T[posOf T p]? = some f ∧ f.path = p ∧ look T p = some f.lines ∧ posOf T p < T.length := by
  unfold isAt at h
  cases hf : T[posOf T p]? with
  | none => rw [hf] at h; cases h
  | some f =>
    rw [hf, Option.any_some] at h
    have hp := of_decide_eq_true h
    have := look_mem hs (List.mem_of_getElem? hf)
    rw [hp] at this
    exact ⟨f, rfl, hp, this, (List.getElem?_eq_some_iff.1 hf).1⟩
theorem find_not {T : List File} (hs : Sorted T) {p : ByteArray} (h : isAt T p = false) : look T p = none ∧ posOf T p ≤ T.length := by
  obtain ⟨A, C, h1, h2, _, _, h5, h6⟩ := tree_split hs p
  rcases h6 with ⟨h6, _⟩ | ⟨_, rfl⟩
  · rw [h6] at h; cases h
  · refine ⟨look_none fun x hx => ?_, by rw [h5, List.length_append]; omega⟩
    rcases List.mem_append.1 hx with hx | hx
    · exact less_ne (h1 x hx)
    · exact (less_ne (h2 x hx)).symm
theorem set_put {T : List File} {p : ByteArray} {l : List ByteArray} (h : isAt T p = false) : setAt T p (some l) = insAt T (posOf T p) ⟨p, l⟩ := by
  show putAt T ⟨p, l⟩ = _
  unfold putAt insAt
  rw [if_neg (by rw [h]; decide)]
theorem set_edit {T : List File} {p : ByteArray} {l : List ByteArray} (h : isAt T p = true) (hl : posOf T p < T.length) : setAt T p (some l) = insAt (dropAt T (posOf T p)) (posOf T p) ⟨p, l⟩ := by
  show putAt T ⟨p, l⟩ = _
  unfold putAt insAt dropAt
  have e : (T.take (posOf T p)).length = posOf T p := by rw [List.length_take]; omega
  rw [if_pos h]
  show _ = (T.take (posOf T p) ++ T.drop (posOf T p + 1)).take (posOf T p) ++ ⟨p, l⟩ :: (T.take (posOf T p) ++ T.drop (posOf T p + 1)).drop (posOf T p)
  congr 1
  · conv => rhs; arg 1; rw [← e]
    rw [List.take_left]
  · congr 1
    conv => rhs; arg 1; rw [← e]
    rw [List.drop_left]
theorem ins_len {T : List File} {i : Nat} {f : File} (h : i ≤ T.length) : (insAt T i f).length = T.length + 1 := by unfold insAt; rw [List.length_append, List.length_take, List.length_cons, List.length_drop]; omega
theorem drop_len {T : List File} {i : Nat} (h : i < T.length) : (dropAt T i).length = T.length - 1 := by unfold dropAt; rw [List.length_append, List.length_take, List.length_drop]; omega
theorem done_ok {there : Bool} {L : List ByteArray} {c : Change} (z : (doneR there L c).2.2 = 0) : (c.what = 2 → there = false) ∧ (c.what ≠ 2 → there = true) ∧ (doneR there L c).2.1 = decide (c.what ≠ 3) := by
  unfold doneR at z ⊢
  by_cases h1 : c.what = 2 ∧ there = true
  · rw [if_pos h1] at z; cases z
  · rw [if_neg h1] at z ⊢
    by_cases h2 : c.what ≠ 2 ∧ there = false
    · rw [if_pos h2] at z; cases z
    · rw [if_neg h2] at z ⊢
      by_cases h3 : (strict L c.hunks).2.2 ≠ 0
      · rw [if_pos h3] at z; exact absurd z h3
      · rw [if_neg h3] at z ⊢
        by_cases h4 : c.what = 3 ∧ (strict L c.hunks).1 ≠ []
        · rw [if_pos h4] at z; cases z
        · rw [if_neg h4]
          refine ⟨fun e => ?_, fun e => ?_, rfl⟩
          · cases there with
            | false => rfl
            | true => exact absurd ⟨e, rfl⟩ h1
          · cases there with
            | true => rfl
            | false => exact absurd ⟨e, rfl⟩ h2
theorem applyR_tree {t : List File} {p : List Change} (h : (treeFault t).2 ≠ 0) : applyR t p = ([], 0, (treeFault t).2) := if_pos h
theorem applyR_patch {t : List File} {p : List Change} (h : (treeFault t).2 = 0) (g : (patchFault p).2 ≠ 0) : applyR t p = ([], (patchFault p).1, (patchFault p).2) := by unfold applyR; rw [if_neg (by rw [h]; decide), if_pos g]
theorem applyR_go {t : List File} {p : List Change} (h : (treeFault t).2 = 0) (g : (patchFault p).2 = 0) {r : List File} {k : Nat} {e : Int} (x : applyGo 0 t p = (r, k, e)) : applyR t p = if e ≠ 0 then (r, k, e) else if 8 < r.length then ([], 0, 3) else (r, 0, 0) := by
  unfold applyR; rw [if_neg (by rw [h]; decide), if_neg (by rw [g]; decide), x]
def ApplyPost (t : List File) (p : List Change) (w : World) (e : Ending) (w' : World) : Prop := ∃ r, e = .returned (.tuple #[r, .int .i64 (applyR t p).2.1, errV (applyR t p).2.2]) ∧ Chg Never w w' ∧ Rdv w' Never r (applyR t p).1
theorem applyPost_bad {t : List File} {p : List Change} {k : Nat} {e : Int} {w w' : World} (h : applyR t p = ([], k, e)) (hc : Chg Never w w') : ApplyPost t p w (.returned (.tuple #[.slice none 0 0, .int .i64 k, errV e])) w' :=
  ⟨_, by rw [h], hc, by rw [h]; exact rdv_nil _ _⟩
theorem applyPost_ok {t R : List File} {p : List Change} {w w' : World} {r : Value} (h : applyR t p = (R, 0, 0)) (hc : Chg Never w w') (hr : Rdv w' Never r R) : ApplyPost t p w (.returned (.tuple #[r, .int .i64 0, .nilIface])) w' :=
  ⟨r, by rw [h]; rfl, hc, by rw [h]; exact hr⟩
theorem own_weak {α : Type} [Dat α] {e : TypeId} {w0 w w' : World} {v : Value} {l : List α} (h : Own e w' (Old w.heap.size) v l) (hc : Chg Never w0 w) (hc' : Chg Never w w') : OwnN e w0 w' v l :=
  ⟨h.keep (O'' := Never) (Chg.refl Never w') (fun _ _ h => h.elim) (fun _ _ h => h.elim), fun k hk => by
    obtain ⟨_, _, q, _⟩ := h
    have := q k hk
    have hs := hc.size
    unfold Old at this
    omega, hc.trans hc'⟩
set_option maxHeartbeats 4000000 in
set_option maxRecDepth 100000 in
theorem apply_any (t : List File) (p : List Change) (vt vp : Value) (w : World) (ht : Rdv w Never vt t) (hp : Rdv w Never vp p) (m : Int) (hm : w.cell? ⟨1, 0, none⟩ = some (.int .i64 m)) :
    Calls Tryz.prog 12 #[vt, vp] w fun e w' => ApplyPost t p w e w' := by
  obtain ⟨ta, tcap, rfl, _, _, _⟩ := rdv_slice ht
  obtain ⟨pa, pcap, rfl, p1, p2, _⟩ := rdv_slice hp
  unfold maxLen at p2
  by_cases z : (treeFault t).2 = 0
  · have Z := Lib.hid z
    by_cases y : (patchFault p).2 = 0
    · have Y := Lib.hid y
      have t8 := (treeFault_zero z).1
      have tl := (treeFault_zero z).2.1
      have tsrt := Lib.hid (treeFault_zero z).2.2.1
      have pl := (patch_of y).1
      have tl60 : ∀ f ∈ t, f.lines.length ≤ 1000000 := fun f hf => by
        have := linesFault_len (fileFault_lines (tl f hf))
        omega
      clear z y tl
      go_enter Tryz.func12, Tryz.ntmps12
      go_wp2_with fail
      refine (tree_check_any t _ _ ht m hm).mono ?_
      rintro e w1 ⟨rfl, hw⟩
      rw [Z.out, errV_zero]
      go_wp2_with fail
      refine (patch_check_any p _ _ (hp.never hw) m (hw.cellNever hm)).mono ?_
      rintro e w2 ⟨rfl, hc2⟩
      have hw := hw.trans hc2
      clear hc2
      rw [Y.out, errV_zero]
      go_wp2_with fail
      refine (tree_copy_any t _ _ (ht.never hw) (by omega) tl60).mono ?_
      rintro e w3 ⟨r3, rfl, hc3, hown⟩
      have hn0 := own_weak hown hw hc3
      clear hown hc3 hw tl60
      go_wp2_with fail
      go_loopw [11, 40] (fun v i wr => ∃ (k : Nat) (T : List File), k ≤ p.length ∧ i = .int .i64 k ∧ OwnN 76 w wr v T ∧ Hid (Sorted T) ∧ T.length ≤ 8 + k ∧ Hid (applyGo k T (p.drop k) = applyGo 0 t p)) (fun _ i _ => p.length - (intOf i).toNat)
      case atStart => exact ⟨0, t, Nat.zero_le _, rfl, hn0, tsrt, by omega, rfl⟩
      case round =>
        clear hn0
        rename World => wr
        obtain ⟨k, T, hk, rfl, hn, hS, hTl, hG⟩ := hrel
        obtain ⟨oa, ocap, rfl, o1, o2, o3⟩ := rdv_slice hn.own.rdv
        unfold maxLen at o2
        have hT : T.length ≤ 1000000 := by omega
        by_cases hlt : k < p.length
        · obtain ⟨c, hx⟩ : ∃ c, p[k]? = some c := ⟨p[k], by simp [hlt]⟩
          obtain ⟨_, _, hpa, _, _, p3⟩ := rdv_slice hp
          injection hpa with hpa1 hpa2 hpa3
          subst hpa1
          clear hpa2 hpa3
          obtain ⟨pb, po, hv, rfl, _, _, c0, c1, c2, hpc, hhv⟩ := elems_change p3 hx
          obtain ⟨ha, hcap, rfl, _, _, _⟩ := rdv_slice hhv
          have hhv := Lib.hid hhv
          have c0 := hn.chg.cellNever c0
          have c1 := hn.chg.cellNever c1
          have c2 := hn.chg.cellNever c2
          have HD := Lib.hid (drop_eq hx)
          obtain ⟨hA, d0, d1, d2⟩ := box1_change wr 36 c.what c.path (.slice ha c.hunks.length hcap) _ rfl
          have DS := Lib.hid (done_step (look T c.path) c)
          clear hx p3
          cases hi : isAt T c.path with
          | true =>
            obtain ⟨f, hf, hfp, hlk, hpos⟩ := find_is hS.out hi
            have IS := Lib.hid hi
            rw [hlk] at DS
            have HLK := Lib.hid hlk
            obtain ⟨fb, fo, flv, rfl, _, _, _, f1, _, hfl⟩ := elems_file o3 hf
            clear hi hf hlk o3 hfp
            have F1 := Lib.hid f1
            clear f1
            go_wp2_with fail
            generalize wr.alloc (.cells #[.int .i64 c.what, .string c.path, .slice ha c.hunks.length hcap] 36) = wA at hA d0 d1 d2 ⊢
            have hnA := hn.never hA
            have HLT := own_block_lt hn.own
            clear hn c0 c1 c2
            refine (find_any T c.path _ _ (hnA.own.rdv.sub (fun _ _ h => h.elim)) hS.out hT).mono ?_
            rintro e w4 ⟨rfl, hc4⟩
            have hn4 := hnA.never hc4
            have d0 := hc4.cellNever d0
            have d1 := hc4.cellNever d1
            have d2 := hc4.cellNever d2
            have hQ := hA.trans hc4
            clear hnA hA hc4
            rw [IS.out]
            have f1 := hQ.cellNever F1.out
            have hfl4 := (hfl.never hQ).sub (O' := Never) (fun _ _ h => h.elim)
            go_wp2_with fail
            refine (done_any true f.lines c _ _ _ (hfl4) (hhv.out.never hn4.chg)).mono ?_
            rintro e w5 ⟨r5, rfl, hc5, hr5⟩
            have hnD := hn4.never hc5
            have d0 := hc5.cellNever d0
            have d1 := hc5.cellNever d1
            have d2 := hc5.cellNever d2
            obtain ⟨ra, rc, rfl, _, _, _⟩ := rdv_slice hr5
            clear f1 hfl4
            have HST : Hid ((stepOf (look T c.path) c).2 = (doneR true f.lines c).2.2) := by rw [Hid, HLK.out, DS.out]; rfl
            by_cases hst : (stepOf (look T c.path) c).2 = 0
            · have hd0 := hst
              rw [HST.out] at hd0
              have HST0 := Lib.hid hst
              have HD0 := Lib.hid hd0
              obtain ⟨q1, q2, q3⟩ := done_ok hd0
              have k2 : c.what ≠ 2 := fun e => absurd (q1 e) (by decide)
              have t2 : (c.what == 2) = false := by simp [k2]
              have t2' : (c.what != 2) = true := by simp [k2]
              have hrf := hn4.fresh hr5
              have HSS0 : Hid (Sorted (setAt T c.path (stepOf (look T c.path) c).1)) := setAt_sorted hS.out (step_at hS.out (Prod.ext rfl HST0.out))
              have HNX0 : Hid (applyGo (k + 1) (setAt T c.path (stepOf (look T c.path) c).1) (p.drop (k + 1)) = applyGo 0 t p) := by rw [Hid, ← apply_step HD.out HST0.out]; exact hG.out
              have hdl := drop_len hpos
              rw [HD0.out, errV_zero]
              by_cases k3 : c.what = 3
              · have q3' : (doneR true f.lines c).2.1 = false := by rw [q3, k3]; rfl
                have HSET : Hid (setAt T c.path (stepOf (look T c.path) c).1 = dropAt T (posOf T c.path)) := by
                  rw [Hid, HLK.out, DS.out]
                  show setAt T c.path (if (doneR true f.lines c).2.1 = true then some (doneR true f.lines c).1 else none) = _
                  rw [if_neg (by rw [q3']; decide)]; rfl
                rw [q3']
                clear hst hd0 q1 q2 q3 q3' k2 k3 hr5 hc5 hrf d1 d2
                go_wp2_with fail
                refine (delete_any T (posOf T c.path) _ w w5 hnD hpos hT).mono ?_
                rintro e w8 ⟨r8, rfl, hn8, _, _⟩
                obtain ⟨va8, vn8, vc8, rfl⟩ := own_isSlice hn8.own
                clear d0 hnD hn4
                go_wp2_with fail
                go_roundw
                case rel => exact ⟨k + 1, _, by omega, by go_num, hn8, by rw [← HSET.out]; exact HSS0, by omega, by rw [← HSET.out]; exact HNX0⟩
                case measure => simp [intOf] <;> omega
              · have q3' : (doneR true f.lines c).2.1 = true := by rw [q3]; exact decide_eq_true k3
                have HSET : Hid (setAt T c.path (stepOf (look T c.path) c).1 = insAt (dropAt T (posOf T c.path)) (posOf T c.path) ⟨c.path, (doneR true f.lines c).1⟩) := by
                  rw [Hid, HLK.out, DS.out]
                  show setAt T c.path (if (doneR true f.lines c).2.1 = true then some (doneR true f.lines c).1 else none) = _
                  rw [if_pos q3', set_edit IS.out hpos]
                have HIL := Lib.hid (ins_len (T := dropAt T (posOf T c.path)) (i := posOf T c.path) (f := ⟨c.path, (doneR true f.lines c).1⟩) (by omega))
                rw [q3']
                clear hst hd0 q1 q2 q3 q3' k2 k3 hr5 hc5 d2
                go_wp2_with fail
                refine (delete_any T (posOf T c.path) _ w w5 hnD hpos hT).mono ?_
                rintro e w8 ⟨r8, rfl, hn8, hch8, hob8⟩
                have d1 := hch8.cell d1 (fun h => absurd (HLT _ h) (Nat.lt_irrefl _))
                have hrf8 := hrf.keep (O'' := fun k => Never k ∨ r8.ownBlock = some k) hch8 (fun k _ h => .inr h) (fun k _ h => h.imp_right (hob8 k))
                have hlt8 := own_block_lt hn8.own
                obtain ⟨va8, vn8, vc8, rfl⟩ := own_isSlice hn8.own
                clear d0 hnD hn4 hrf hch8 hob8
                have hnB := heap_alloc_new w8 (.cells #[.string c.path, .slice ra (doneR true f.lines c).1.length rc] 76)
                have hAB : Chg Never w8 (w8.alloc (.cells #[.string c.path, .slice ra (doneR true f.lines c).1.length rc] 76)) := (Chg.refl Never w8).alloc _
                go_wp2_with fail
                generalize w8.alloc (.cells #[.string c.path, .slice ra (doneR true f.lines c).1.length rc] 76) = wB at hnB hAB ⊢
                refine (insert_any (dropAt T (posOf T c.path)) (posOf T c.path) ⟨c.path, (doneR true f.lines c).1⟩ _ (.slice ra (doneR true f.lines c).1.length rc) w wB w8.heap.size 76 (hn8.never hAB) (by omega) (by omega) hnB (fun k hk e => absurd (hlt8 k hk) (by rw [e]; omega)) ⟨_, rfl, hpc, hrf8.never hAB⟩).mono ?_
                rintro e w9 ⟨r9, rfl, hn9⟩
                obtain ⟨va9, vn9, vc9, rfl⟩ := own_isSlice hn9.own
                clear hnB hAB d1 hrf8 hn8
                go_wp2_with fail
                go_roundw
                case rel => exact ⟨k + 1, _, by omega, by go_num, hn9, by rw [← HSET.out]; exact HSS0, by rw [HIL.out]; omega, by rw [← HSET.out]; exact HNX0⟩
                case measure => simp [intOf] <;> omega
            · have E := applyPost_bad (w := w) (applyR_go Z.out Y.out (by rw [← hG.out]; exact apply_bad HD.out hst) |>.trans (if_pos hst)) hnD.chg
              have hst' := hst
              rw [HST.out] at E hst'
              rw [errV_pos hst'] at E ⊢
              clear hst hst' d0 d1 d2
              go_wp2_with fail
              go_ret3
              exact E
          | false =>
            obtain ⟨hlk, hpos⟩ := find_not hS.out hi
            have IS := Lib.hid hi
            rw [hlk] at DS
            have HLK := Lib.hid hlk
            clear hi hlk o3
            go_wp2_with fail
            generalize wr.alloc (.cells #[.int .i64 c.what, .string c.path, .slice ha c.hunks.length hcap] 36) = wA at hA d0 d1 d2 ⊢
            have hnA := hn.never hA
            have HLT := own_block_lt hn.own
            clear hn c0 c1 c2
            refine (find_any T c.path _ _ (hnA.own.rdv.sub (fun _ _ h => h.elim)) hS.out hT).mono ?_
            rintro e w4 ⟨rfl, hc4⟩
            have hn4 := hnA.never hc4
            have d0 := hc4.cellNever d0
            have d1 := hc4.cellNever d1
            have d2 := hc4.cellNever d2
            have hQ := hA.trans hc4
            clear hnA hA hc4
            rw [IS.out]
            go_wp2_with fail
            refine (done_any false ([] : List ByteArray) c _ _ _ ((rdv_nil _ _)) (hhv.out.never hn4.chg)).mono ?_
            rintro e w5 ⟨r5, rfl, hc5, hr5⟩
            have hnD := hn4.never hc5
            have d0 := hc5.cellNever d0
            have d1 := hc5.cellNever d1
            have d2 := hc5.cellNever d2
            obtain ⟨ra, rc, rfl, _, _, _⟩ := rdv_slice hr5
            have HST : Hid ((stepOf (look T c.path) c).2 = (doneR false [] c).2.2) := by rw [Hid, HLK.out, DS.out]; rfl
            by_cases hst : (stepOf (look T c.path) c).2 = 0
            · have hd0 := hst
              rw [HST.out] at hd0
              have HST0 := Lib.hid hst
              have HD0 := Lib.hid hd0
              obtain ⟨q1, q2, q3⟩ := done_ok hd0
              have k2 : c.what = 2 := by
                by_cases e : c.what = 2
                · exact e
                · exact absurd (q2 e) (by decide)
              have q3' : (doneR false [] c).2.1 = true := by rw [q3, k2]; rfl
              have t2 : (c.what == 2) = true := by simp [k2]
              have hrf := hn4.fresh hr5
              have HSET : Hid (setAt T c.path (stepOf (look T c.path) c).1 = insAt T (posOf T c.path) ⟨c.path, (doneR false [] c).1⟩) := by
                rw [Hid, HLK.out, DS.out]
                show setAt T c.path (if (doneR false [] c).2.1 = true then some (doneR false [] c).1 else none) = _
                rw [if_pos q3', set_put IS.out]
              have HNX : Hid (applyGo (k + 1) (insAt T (posOf T c.path) ⟨c.path, (doneR false [] c).1⟩) (p.drop (k + 1)) = applyGo 0 t p) := by rw [Hid, ← HSET.out, ← apply_step HD.out HST0.out]; exact hG.out
              have HSS : Hid (Sorted (insAt T (posOf T c.path) ⟨c.path, (doneR false [] c).1⟩)) := by
                rw [Hid, ← HSET.out]
                exact setAt_sorted hS.out (step_at hS.out (Prod.ext rfl HST0.out))
              have HIL := Lib.hid (ins_len (T := T) (f := ⟨c.path, (doneR false [] c).1⟩) hpos)
              rw [HD0.out, errV_zero, q3']
              clear hst hd0 q1 q2 q3 q3' k2 hr5 hc5 HSET
              have hlt8 := own_block_lt hnD.own
              have hnB := heap_alloc_new w5 (.cells #[.string c.path, .slice ra (doneR false [] c).1.length rc] 76)
              have hAB : Chg Never w5 (w5.alloc (.cells #[.string c.path, .slice ra (doneR false [] c).1.length rc] 76)) := (Chg.refl Never w5).alloc _
              go_wp2_with fail
              generalize w5.alloc (.cells #[.string c.path, .slice ra (doneR false [] c).1.length rc] 76) = wB at hnB hAB ⊢
              refine (insert_any T (posOf T c.path) ⟨c.path, (doneR false [] c).1⟩ _ (.slice ra (doneR false [] c).1.length rc) w wB w5.heap.size 76 (hnD.never hAB) hpos hT hnB (fun k hk e => absurd (hlt8 k hk) (by rw [e]; omega)) ⟨_, rfl, hpc, hrf.never hAB⟩).mono ?_
              rintro e w8 ⟨r8, rfl, hn8⟩
              obtain ⟨va8, vn8, vc8, rfl⟩ := own_isSlice hn8.own
              clear hnB hAB d0 d1 d2 hrf hnD hn4
              go_wp2_with fail
              go_roundw
              case rel => exact ⟨k + 1, _, by omega, by go_num, hn8, HSS, by rw [HIL.out]; omega, HNX⟩
              case measure => simp [intOf] <;> omega
            · have E := applyPost_bad (w := w) (applyR_go Z.out Y.out (by rw [← hG.out]; exact apply_bad HD.out hst) |>.trans (if_pos hst)) hnD.chg
              have hst' := hst
              rw [HST.out] at E hst'
              rw [errV_pos hst'] at E ⊢
              clear hst hst' d0 d1 d2
              go_wp2_with fail
              go_ret3
              exact E
        · obtain rfl : k = p.length := by omega
          have hGo := hG.out
          rw [apply_end] at hGo
          have hR := applyR_go Z.out Y.out hGo.symm
          rw [if_neg (by decide)] at hR
          by_cases h8 : 8 < T.length
          · rw [if_pos h8] at hR
            have E := applyPost_bad (k := 0) hR hn.chg
            rw [errV_pos (by decide)] at E
            clear hR hGo hG
            go_wp2_with fail
            go_ret3
            exact E
          · rw [if_neg h8] at hR
            have HR := Lib.hid hR
            have hr := hn.own.rdv.sub (O' := Never) (fun _ _ h => h.elim)
            clear hR hGo hG
            go_wp2_with fail
            go_ret3
            exact applyPost_ok HR.out hn.chg hr
    · have HE := Lib.hid (applyR_patch z y)
      have Y := Lib.hid y
      have Z := Lib.hid z
      clear z y
      go_enter Tryz.func12, Tryz.ntmps12
      go_wp2_with fail
      refine (tree_check_any t _ _ ht m hm).mono ?_
      rintro e w1 ⟨rfl, hw⟩
      rw [Z.out, errV_zero]
      go_wp2_with fail
      refine (patch_check_any p _ _ (hp.never hw) m (hw.cellNever hm)).mono ?_
      rintro e w2 ⟨rfl, hc2⟩
      have E := applyPost_bad HE.out (hw.trans hc2)
      rw [errV_pos Y.out] at E ⊢
      go_wp2_with fail
      go_ret3
      exact E
  · have HE := Lib.hid (applyR_tree (p := p) z)
    have Z := Lib.hid z
    clear z
    go_enter Tryz.func12, Tryz.ntmps12
    go_wp2_with fail
    refine (tree_check_any t _ _ ht m hm).mono ?_
    rintro e w1 ⟨rfl, hw⟩
    have E := applyPost_bad HE.out hw
    rw [errV_pos Z.out] at E ⊢
    go_wp2_with fail
    go_ret3
    exact E
end Go.Proofs.YteocmmejfnmjcaaGreatDoor
namespace Go.Proofs.YteocmmejfnmjcaaGreatDoor
open Go.RowKit

theorem placeT_is {t : List File} (h : Sorted t) {p : ByteArray} (hi : isAt t p = true) : placeI t p = posOf t p := by
  unfold placeI; rw [placeOf_sorted h, if_pos hi]
theorem placeT_not {t : List File} (h : Sorted t) {p : ByteArray} (hi : isAt t p = false) : placeI t p = -1 := by
  unfold placeI; rw [placeOf_sorted h, if_neg (by rw [hi]; decide)]
def RefApPost (t : List File) (p : List Change) (w : World) (e : Ending) (w' : World) : Prop := ∃ r, e = .returned (.tuple #[r, .int .i64 (applyR t p).2.1, .int .i64 (applyR t p).2.2]) ∧ Chg Never w w' ∧ Rdv w' Never r (applyR t p).1
theorem rap_bad {t : List File} {p : List Change} {k : Nat} {e : Int} {w w' : World} (h : applyR t p = ([], k, e)) (hc : Chg Never w w') : RefApPost t p w (.returned (.tuple #[.slice none 0 0, .int .i64 k, .int .i64 e])) w' :=
  ⟨_, by rw [h], hc, by rw [h]; exact rdv_nil _ _⟩
theorem rap_ok {t R : List File} {p : List Change} {w w' : World} {r : Value} (h : applyR t p = (R, 0, 0)) (hc : Chg Never w w') (hr : Rdv w' Never r R) : RefApPost t p w (.returned (.tuple #[r, .int .i64 0, .int .i64 0])) w' :=
  ⟨r, by rw [h]; rfl, hc, by rw [h]; exact hr⟩
theorem apply_ret {t T : List File} {p : List Change} {k : Nat} {c : Change} {F : Int} (z : (treeFault t).2 = 0) (y : (patchFault p).2 = 0) (hG : applyGo k T (p.drop k) = applyGo 0 t p) (hd : p.drop k = c :: p.drop (k + 1)) (hst : (stepOf (look T c.path) c).2 = F) (hF : F ≠ 0) : applyR t p = ([], k, F) := by
  subst hst
  rw [applyR_go z y (hG.symm.trans (apply_bad hd hF)), if_pos hF]
theorem step_done {T : List File} {c : Change} {there : Bool} {L : List ByteArray} {x : Option (List ByteArray)} (hl : look T c.path = x) (h1 : x.isSome = there) (h2 : x.getD [] = L) : stepOf (look T c.path) c = (if (doneR there L c).2.1 = true then some (doneR there L c).1 else none, (doneR there L c).2.2) := by
  rw [hl, done_step, h1, h2]
set_option maxHeartbeats 8000000 in
set_option maxRecDepth 100000 in
theorem refApply_any (t : List File) (p : List Change) (vt vp : Value) (w : World) (ht : Rdv w Never vt t) (hp : Rdv w Never vp p) :
    Calls Tryz.prog 11 #[vt, vp] w fun e w' => RefApPost t p w e w' := by
  obtain ⟨ta, tcap, rfl, _, _, _⟩ := rdv_slice ht
  obtain ⟨pa, pcap, rfl, p1, p2, p3⟩ := rdv_slice hp
  unfold maxLen at p2
  by_cases z : (treeFault t).2 = 0
  · have Z := Lib.hid z
    by_cases y : (patchFault p).2 = 0
    · have Y := Lib.hid y
      have t8 := (treeFault_zero z).1
      have tsrt := Lib.hid (treeFault_zero z).2.2.1
      have pl := (patch_of y).1
      clear z y
      go_enter Tryz.func11, Tryz.ntmps11
      go_wp2_with fail
      refine (refTree_any t _ _ ht).mono ?_
      rintro e w1 ⟨rfl, hw⟩
      rw [Z.out]
      go_wp2_with fail
      refine (refPatch_any p _ _ (hp.never hw)).mono ?_
      rintro e w2 ⟨rfl, hc2⟩
      have hw := hw.trans hc2
      clear hc2
      rw [Y.out]
      have ht0 := ht.never hw
      go_wp2_with fail
      go_loopw [10, 11] (fun v i wr => ∃ (k : Nat) (T : List File), k ≤ p.length ∧ i = .int .i64 k ∧ Chg Never w wr ∧ Rdv wr Never v T ∧ Hid (Sorted T) ∧ T.length ≤ 8 + k ∧ Hid (applyGo k T (p.drop k) = applyGo 0 t p)) (fun _ i _ => p.length - (intOf i).toNat)
      case atStart => exact ⟨0, t, Nat.zero_le _, rfl, hw, ht0, tsrt, by omega, rfl⟩
      case round =>
        clear hw ht0
        rename World => wr
        obtain ⟨k, T, hk, rfl, hc, hT, hS, hTl, hG⟩ := hrel
        obtain ⟨oa, ocap, rfl, o1, o2, o3⟩ := rdv_slice hT
        unfold maxLen at o2
        by_cases hlt : k < p.length
        · obtain ⟨c, hx⟩ : ∃ c, p[k]? = some c := ⟨p[k], by simp [hlt]⟩
          obtain ⟨wh, pt, hs⟩ := c
          obtain ⟨pb, po, hv, hpo, _, _, c0, c1, c2, hpc, hhv⟩ := elems_change p3 hx
          subst hpo
          simp only at c0 c1 c2 hpc hhv
          obtain ⟨ha, hcap, rfl, _, _, _⟩ := rdv_slice hhv
          have hhv := Lib.hid hhv
          have c0 := hc.cellNever c0
          have c1 := hc.cellNever c1
          have c2 := hc.cellNever c2
          have HD := Lib.hid (drop_eq hx)
          obtain ⟨hA, d0, d1, d2⟩ := box1_change wr 36 wh pt (.slice ha hs.length hcap) _ rfl
          clear hx p3
          go_wp2_with fail
          generalize wr.alloc (.cells #[.int .i64 wh, .string pt, .slice ha hs.length hcap] 36) = wA at hA d0 d1 d2 ⊢
          clear c0 c1 c2
          refine (refPlace_any T pt _ _ (hT.never hA)).mono ?_
          rintro e w4 ⟨rfl, hc4⟩
          have hQ := hA.trans hc4
          have hcD := hc.trans hQ
          have hT := hT.never hQ
          have d0 := hc4.cellNever d0
          have d1 := hc4.cellNever d1
          have d2 := hc4.cellNever d2
          clear hA hc4
          cases hi : isAt T pt with
          | true =>
            obtain ⟨f, hf, _, hlk, hpos⟩ := find_is hS.out hi
            rw [placeT_is hS.out hi]
            have DS := Lib.hid (step_done (c := ⟨wh, pt, hs⟩) (there := true) (L := f.lines) hlk rfl rfl)
            obtain ⟨fb, fo, flv, rfl, _, _, _, f1, _, hfl⟩ := elems_file o3 hf
            have f1 := hQ.cellNever f1
            have hfl := hfl.never hQ
            obtain ⟨la, lc, rfl, _, _, _⟩ := rdv_slice hfl
            clear hi hf hlk o3 hQ
            by_cases k2 : wh = 2
            · subst k2
              have HE : Hid (applyR t p = ([], k, 6)) := apply_ret Z.out Y.out hG.out HD.out (by rw [show stepOf (look T pt) ⟨2, pt, hs⟩ = _ from DS.out, done_clash ⟨rfl, rfl⟩]) (by decide)
              clear hG DS
              go_wp2_with fail
              go_ret3
              exact rap_bad HE.out hcD
            · have t2 : (wh == 2) = false := by simp [k2]
              have t2' : (wh != 2) = true := by simp [k2]
              go_wp2_with fail
              refine (strictOf_any f.lines hs _ _ _ (hfl) (hhv.out.never hcD)).mono ?_
              rintro e w6 ⟨r6, rfl, hc6, hr6⟩
              have hcD := hcD.trans hc6
              have hT := hT.never hc6
              have d0 := hc6.cellNever d0
              have d1 := hc6.cellNever d1
              obtain ⟨sa, sc, rfl, _, _, _⟩ := rdv_slice hr6
              clear hc6
              by_cases zz : (strict f.lines hs).2.2 = 0
              · have hrw : ((strict f.lines hs).2.2 != 0) = false := by simp [zz]
                by_cases k3 : wh = 3
                · subst k3
                  by_cases h0 : (strict f.lines hs).1 = []
                  · have HDN : Hid (doneR true f.lines ⟨3, pt, hs⟩ = ([], false, 0)) := (done_good (there := true) (c := ⟨3, pt, hs⟩) (fun h => absurd (show (3 : Int) = 2 from h.1) (by decide)) (fun h => by cases h.2) zz (fun h => h.2 h0)).trans (by rw [show (strict f.lines (⟨3, pt, hs⟩ : Change).hunks).1 = [] from h0]; rfl)
                    have HSET : stepOf (look T pt) ⟨3, pt, hs⟩ = (none, 0) := by rw [show stepOf (look T pt) ⟨3, pt, hs⟩ = _ from DS.out, HDN.out]; rfl
                    have HNX : Hid (applyGo (k + 1) (dropAt T (posOf T pt)) (p.drop (k + 1)) = applyGo 0 t p) := by
                      have e := apply_step (T := T) HD.out (by rw [HSET])
                      rw [show (⟨3, pt, hs⟩ : Change).path = pt from rfl, HSET] at e
                      rw [Hid, ← hG.out]
                      exact e.symm
                    have HSS : Hid (Sorted (dropAt T (posOf T pt))) := setAt_sorted (y := none) hS.out (step_at hS.out HSET)
                    have hdl := drop_len hpos
                    rw [zz]
                    rw [h0] at hr6 ⊢
                    clear HSET hG zz h0 hrw DS k2 t2 t2' f1
                    go_wp2_with fail
                    refine (refDrop_any T (posOf T pt) _ _ hT hpos (by omega)).mono ?_
                    rintro e w7 ⟨r7, rfl, hc7, hr7⟩
                    have hcD := hcD.trans hc7
                    clear hc7 d0 d1 d2 hr6
                    go_wp2_with fail
                    go_roundw
                    case rel => exact ⟨k + 1, _, by omega, by go_num, hcD, hr7, HSS, by omega, HNX⟩
                    case measure => simp [intOf] <;> omega
                  · have HE : Hid (applyR t p = ([], k, 6)) := apply_ret Z.out Y.out hG.out HD.out (by rw [show stepOf (look T pt) ⟨3, pt, hs⟩ = _ from DS.out, done_left (there := true) (c := ⟨3, pt, hs⟩) (fun h => absurd (show (3 : Int) = 2 from h.1) (by decide)) (fun h => by cases h.2) zz ⟨rfl, h0⟩]) (by decide)
                    have hpos : 0 < (strict f.lines hs).1.length := List.length_pos_iff.2 h0
                    rw [zz]
                    clear hG DS zz h0 hrw k2 t2 t2' f1
                    go_wp2_with fail
                    go_ret3
                    exact rap_bad HE.out hcD
                · have t3 : (wh == 3) = false := by simp [k3]
                  have t3' : (wh != 3) = true := by simp [k3]
                  have HDN : Hid (doneR true f.lines ⟨wh, pt, hs⟩ = ((strict f.lines hs).1, true, 0)) := (done_good (there := true) (c := ⟨wh, pt, hs⟩) (fun h => k2 h.1) (fun h => by cases h.2) zz (fun h => k3 h.1)).trans (by rw [show decide ((⟨wh, pt, hs⟩ : Change).what ≠ 3) = true from decide_eq_true k3])
                  rw [zz]
                  clear zz k2 k3 hrw f1
                  have HSET : stepOf (look T pt) ⟨wh, pt, hs⟩ = (some (strict f.lines hs).1, 0) := by rw [show stepOf (look T pt) ⟨wh, pt, hs⟩ = _ from DS.out, HDN.out]; rfl
                  have HNX : Hid (applyGo (k + 1) (setAt T pt (some (strict f.lines hs).1)) (p.drop (k + 1)) = applyGo 0 t p) := by
                    have e := apply_step (T := T) HD.out (by rw [HSET])
                    rw [show (⟨wh, pt, hs⟩ : Change).path = pt from rfl, HSET] at e
                    rw [Hid, ← e]
                    exact hG.out
                  have HSS : Hid (Sorted (setAt T pt (some (strict f.lines hs).1))) := setAt_sorted hS.out (fun e => by cases e)
                  have HPL : Hid (putLoop ⟨pt, (strict f.lines hs).1⟩ false T = setAt T pt (some (strict f.lines hs).1)) := putLoop_sorted _ _ hS.out
                  have HLN : Hid ((setAt T pt (some (strict f.lines hs).1)).length ≤ T.length + 1) := by
                    have := putAt_len hS.out ⟨pt, (strict f.lines hs).1⟩
                    show (putAt T ⟨pt, (strict f.lines hs).1⟩).length ≤ _
                    rw [this]; split <;> omega
                  clear HSET hG
                  go_wp2_with fail
                  refine (refPut_any T ⟨pt, (strict f.lines hs).1⟩ _ _ _ hT hr6 hpc (by omega)).mono ?_
                  rintro e w7 ⟨r7, rfl, hc7, hr7⟩
                  rw [HPL.out] at hr7
                  have hcD := hcD.trans hc7
                  have hle := HLN.out
                  clear hc7 d0 d1 hr6
                  go_wp2_with fail
                  go_roundw
                  case rel => exact ⟨k + 1, _, by omega, by go_num, hcD, hr7, HSS, by omega, HNX⟩
                  case measure => simp [intOf] <;> omega
              · have HE : Hid (applyR t p = ([], k, (strict f.lines hs).2.2)) := apply_ret Z.out Y.out hG.out HD.out (by rw [show stepOf (look T pt) ⟨wh, pt, hs⟩ = _ from DS.out, done_bad (there := true) (c := ⟨wh, pt, hs⟩) (fun h => k2 h.1) (fun h => by cases h.2) zz]) zz
                have z0 : ((strict f.lines hs).2.2 == 0) = false := by simp [zz]
                have z0' : ((strict f.lines hs).2.2 != 0) = true := by simp [zz]
                clear hG DS zz k2 f1
                go_wp2_with fail
                go_ret3
                exact rap_bad HE.out hcD
          | false =>
            obtain ⟨hlk, _⟩ := find_not hS.out hi
            rw [placeT_not hS.out hi]
            have DS := Lib.hid (step_done (c := ⟨wh, pt, hs⟩) (there := false) (L := []) hlk rfl rfl)
            clear hi hlk o3 hQ
            by_cases k2 : wh = 2
            · subst k2
              go_wp2_with fail
              refine (strictOf_any ([] : List ByteArray) hs _ _ _ ((rdv_nil _ _)) (hhv.out.never hcD)).mono ?_
              rintro e w6 ⟨r6, rfl, hc6, hr6⟩
              have hcD := hcD.trans hc6
              have hT := hT.never hc6
              have d0 := hc6.cellNever d0
              have d1 := hc6.cellNever d1
              obtain ⟨sa, sc, rfl, _, _, _⟩ := rdv_slice hr6
              clear hc6
              by_cases zz : (strict [] hs).2.2 = 0
              · have HDN : Hid (doneR false [] ⟨2, pt, hs⟩ = ((strict [] hs).1, true, 0)) := done_good (there := false) (c := ⟨2, pt, hs⟩) (fun h => by cases h.2) (fun h => h.1 rfl) zz (fun h => absurd (show (2 : Int) = 3 from h.1) (by decide))
                rw [zz]
                clear zz
                have HSET : stepOf (look T pt) ⟨2, pt, hs⟩ = (some (strict [] hs).1, 0) := by rw [show stepOf (look T pt) ⟨2, pt, hs⟩ = _ from DS.out, HDN.out]; rfl
                have HNX : Hid (applyGo (k + 1) (setAt T pt (some (strict [] hs).1)) (p.drop (k + 1)) = applyGo 0 t p) := by
                  have e := apply_step (T := T) HD.out (by rw [HSET])
                  rw [show (⟨2, pt, hs⟩ : Change).path = pt from rfl, HSET] at e
                  rw [Hid, ← e]
                  exact hG.out
                have HSS : Hid (Sorted (setAt T pt (some (strict [] hs).1))) := setAt_sorted hS.out (fun e => by cases e)
                have HPL : Hid (putLoop ⟨pt, (strict [] hs).1⟩ false T = setAt T pt (some (strict [] hs).1)) := putLoop_sorted _ _ hS.out
                have HLN : Hid ((setAt T pt (some (strict [] hs).1)).length ≤ T.length + 1) := by
                  have := putAt_len hS.out ⟨pt, (strict [] hs).1⟩
                  show (putAt T ⟨pt, (strict [] hs).1⟩).length ≤ _
                  rw [this]; split <;> omega
                clear HSET hG
                go_wp2_with fail
                refine (refPut_any T ⟨pt, (strict [] hs).1⟩ _ _ _ hT hr6 hpc (by omega)).mono ?_
                rintro e w7 ⟨r7, rfl, hc7, hr7⟩
                rw [HPL.out] at hr7
                have hcD := hcD.trans hc7
                have hle := HLN.out
                clear hc7 d0 d1 hr6
                go_wp2_with fail
                go_roundw
                case rel => exact ⟨k + 1, _, by omega, by go_num, hcD, hr7, HSS, by omega, HNX⟩
                case measure => simp [intOf] <;> omega
              · have HE : Hid (applyR t p = ([], k, (strict [] hs).2.2)) := apply_ret Z.out Y.out hG.out HD.out (by rw [show stepOf (look T pt) ⟨2, pt, hs⟩ = _ from DS.out]; show (doneR false [] _).2.2 = _; rw [done_bad (there := false) (c := ⟨2, pt, hs⟩) (fun h => by cases h.2) (fun h => h.1 rfl) zz]) zz
                have z0 : ((strict [] hs).2.2 == 0) = false := by simp [zz]
                have z0' : ((strict [] hs).2.2 != 0) = true := by simp [zz]
                clear hG DS zz
                go_wp2_with fail
                go_ret3
                exact rap_bad HE.out hcD
            · have HE : Hid (applyR t p = ([], k, 4)) := apply_ret Z.out Y.out hG.out HD.out (by rw [show stepOf (look T pt) ⟨wh, pt, hs⟩ = _ from DS.out]; show (doneR false [] _).2.2 = _; rw [done_none ⟨k2, rfl⟩]) (by decide)
              have t2 : (wh == 2) = false := by simp [k2]
              have t2' : (wh != 2) = true := by simp [k2]
              clear hG DS k2
              go_wp2_with fail
              go_ret3
              exact rap_bad HE.out hcD
        · obtain rfl : k = p.length := by omega
          have hGo := hG.out
          rw [apply_end] at hGo
          have hR := applyR_go Z.out Y.out hGo.symm
          rw [if_neg (by decide)] at hR
          by_cases h8 : 8 < T.length
          · rw [if_pos h8] at hR
            have E := Lib.hid (rap_bad (k := 0) hR hc)
            clear hR hGo hG
            go_wp2_with fail
            go_ret3
            exact E.out
          · rw [if_neg h8] at hR
            have HR := Lib.hid hR
            clear hR hGo hG
            go_wp2_with fail
            go_ret3
            exact rap_ok HR.out hc hT
    · have HE := Lib.hid (applyR_patch z y)
      have Z := Lib.hid z
      have y0 : ((patchFault p).2 == 0) = false := by simp [y]
      have y0' : ((patchFault p).2 != 0) = true := by simp [y]
      clear z y
      go_enter Tryz.func11, Tryz.ntmps11
      go_wp2_with fail
      refine (refTree_any t _ _ ht).mono ?_
      rintro e w1 ⟨rfl, hw⟩
      rw [Z.out]
      go_wp2_with fail
      refine (refPatch_any p _ _ (hp.never hw)).mono ?_
      rintro e w2 ⟨rfl, hc2⟩
      go_wp2_with fail
      go_ret3
      exact rap_bad HE.out (hw.trans hc2)
  · have HE := Lib.hid (applyR_tree (p := p) z)
    have z0 : ((treeFault t).2 == 0) = false := by simp [z]
    have z0' : ((treeFault t).2 != 0) = true := by simp [z]
    clear z
    go_enter Tryz.func11, Tryz.ntmps11
    go_wp2_with fail
    refine (refTree_any t _ _ ht).mono ?_
    rintro e w1 ⟨rfl, hw⟩
    go_wp2_with fail
    go_ret3
    exact rap_bad HE.out hw
end Go.Proofs.YteocmmejfnmjcaaGreatDoor
namespace Go.Proofs.YteocmmejfnmjcaaGreatDoor
open Go.RowKit

/-- an error that is none, as a cell -/
instance : Dat Unit where
  n := 1
  rd _ _ cs _ := cs = [.nilIface]
  bulk _ := 1
  pos := by decide
  len := by rintro _ _ _ _ rfl; rfl
  one := by rintro _ _ _ _ rfl u hu; simp at hu; subst hu; rfl
  keep := by intro _ _ _ _ _ _ _ h _ _ _; exact h
theorem elemOk_err : ElemOk Tryz.prog 66 28 1 := elemOk_of Tryz.underlying66 (z := .nilIface) (b := 16) (by kernel_rfl) rfl (by decide)
theorem elems_none {w : World} {O : Nat → Prop} {a : Option Addr} {l : List Unit} (h : Elems w O a l) {i : Nat} {x : Unit} (hx : l[i]? = some x) : ∃ b off, a = some ⟨b, off, none⟩ ∧ w.cell? ⟨b, off + i, none⟩ = some .nilIface := by
  obtain ⟨b, off, es, ha, hb, hcs, rfl⟩ := h i x hx
  refine ⟨b, off, ha, ?_⟩
  have := hcs 0 .nilIface rfl
  simpa [Dat.n] using this
set_option maxHeartbeats 1000000 in
set_option maxRecDepth 100000 in
theorem join_none (l : List Unit) (v : Value) (w : World) (h : Rdv w Never v l) :
    Calls Tryz.prog 29 #[v] w fun e w' => e = .returned .nilIface ∧ Chg Never w w' := by
  obtain ⟨a, cap, rfl, h1, h2, h3⟩ := rdv_slice h
  unfold maxLen at h2
  go_enter Tryz.func29, Tryz.ntmps29
  go_wp2_with fail
  go_loopw [3, 11] (fun n i wr => ∃ k : Nat, k ≤ l.length ∧ i = .int .i64 k ∧ n = .int .i64 0 ∧ Chg Never w wr) (fun _ i _ => l.length - (intOf i).toNat)
  case atStart => exact ⟨0, Nat.zero_le _, rfl, rfl, Chg.refl _ _⟩
  case round =>
    obtain ⟨k, hk, rfl, rfl, hc⟩ := hrel
    by_cases hlt : k < l.length
    · obtain ⟨x, hx⟩ : ∃ x, l[k]? = some x := ⟨l[k], by simp [hlt]⟩
      obtain ⟨b, off, rfl, c0⟩ := elems_none h3 hx
      have c0 := hc.cellNever c0
      clear hx h3 h
      go_wp2_with fail
      go_roundw
      case rel => exact ⟨k + 1, by omega, by go_num, rfl, hc⟩
      case measure => simp [intOf] <;> omega
    · go_wp2_with fail
      go_ret
      exact ⟨rfl, hc⟩
/-! ### patch.Turn -/
def turnPR (p : List Change) : List Change := if (patchFault p).2 = 0 then turnP p else []
theorem turnP_take {p : List Change} {k : Nat} {c : Change} (h : p[k]? = some c) : turnP (p.take (k + 1)) = turnP (p.take k) ++ [turnC c] := by
  rw [List.take_add_one, h]; simp [turnP]
/-- both rows at the head of a round -/
structure TurnSt (w wr : World) (vO vF : Value) (L : List Change) (n : Nat) : Prop where
  out : Own 36 wr (fun j => vF.ownBlock = some j) vO L
  flt : Own 28 wr (fun j => vO.ownBlock = some j) vF (List.replicate n ())
  newO : ∀ k, vO.ownBlock = some k → w.heap.size ≤ k
  newF : ∀ k, vF.ownBlock = some k → w.heap.size ≤ k
  chg : Chg Never w wr
theorem turn_out {w2 w5 W8 : World} {B : Nat} {vO vF vF5 : Value} {L : List Change} (h : Own 36 w2 (fun j => vF.ownBlock = some j ∨ j = B) vO L) (hc5 : Chg (OwnB vF) w2 w5) (hk5 : ∃ k, vF5.ownBlock = some k ∧ (vF.ownBlock = some k ∨ w2.heap.size ≤ k)) (hcW : Chg (fun j => j = B) w5 W8) :
    Own 36 W8 (fun j => vF5.ownBlock = some j ∨ j = B) vO L := by
  obtain ⟨q, hq, hq2⟩ := hk5
  refine (h.keep (O'' := fun j => vF5.ownBlock = some j ∨ j = B) hc5 (fun _ _ h => .inl h) (fun j hj h => h.imp_left (fun h => ?_))).keep hcW (fun _ _ h => .inr h) (fun _ _ h => h)
  rw [hq] at h
  injection h with h
  subst h
  exact hq2.resolve_right (by omega)
theorem turn_rd {w2 w5 W8 : World} {B sA : Nat} {vO vF vF5 v : Value} {l : List Hunk} (h : Rdv w2 (Old sA) v l) (hs : sA ≤ w2.heap.size) (hO : ∀ k, vO.ownBlock = some k → k < sA) (hF : ∀ k, vF.ownBlock = some k → k < sA) (hB : B < sA) (hc5 : Chg (OwnB vF) w2 w5) (hk5 : ∃ k, vF5.ownBlock = some k ∧ (vF.ownBlock = some k ∨ w2.heap.size ≤ k)) (hcW : Chg (fun j => j = B) w5 W8) :
    Rdv W8 (fun j => (vF5.ownBlock = some j ∨ j = B) ∨ vO.ownBlock = some j) v l := by
  obtain ⟨q, hq, hq2⟩ := hk5
  have h5 := h.keep (O'' := fun j => Old sA j ∨ w2.heap.size ≤ j) hc5 (fun k _ hk => hF k hk) (fun k hk hh => hh.resolve_right (by omega))
  refine h5.keep hcW (fun k _ hk => .inl (by unfold Old; omega)) (fun k _ hk => ?_)
  rcases hk with (hk | rfl) | hk
  · rw [hq] at hk
    injection hk with hk
    subst hk
    exact hq2.imp_left (fun e => hF _ e)
  · exact .inl hB
  · exact .inl (hO k hk)
theorem turn_lt {w2 w5 W8 : World} {B sA : Nat} {vF vF5 : Value} {n : Nat} {O : Nat → Prop} (h : Own 28 w5 O vF5 (List.replicate n ())) (hs : sA ≤ w2.heap.size) (hB : B < sA) (hc5 : Chg (OwnB vF) w2 w5) (hcW : Chg (fun j => j = B) w5 W8) : ∀ j, (vF5.ownBlock = some j ∨ j = B) → j < W8.heap.size := by
  intro j hj
  have h1 := hc5.size
  have h2 := hcW.size
  rcases hj with hj | rfl
  · have := own_block_lt h j hj; omega
  · omega
theorem turn_step {w wr w2 w5 W8 w9 : World} {B k : Nat} {vO vF vF5 vO9 : Value} {L M : List Change} (hst : TurnSt w wr vO vF L k) (hA2 : Chg Never wr w2) (hB : B = wr.heap.size) (HF5 : Own 28 w5 (fun j => vO.ownBlock = some j ∨ j = B) vF5 (List.replicate k () ++ [()])) (hc5 : Chg (OwnB vF) w2 w5) (hk5 : ∃ k, vF5.ownBlock = some k ∧ (vF.ownBlock = some k ∨ w2.heap.size ≤ k))
    (hcW : Chg (fun j => j = B) w5 W8) (HO9 : Own 36 w9 (fun j => vF5.ownBlock = some j ∨ j = B) vO9 M) (hc9 : Chg (OwnB vO) W8 w9) (hk9 : ∃ k, vO9.ownBlock = some k ∧ (vO.ownBlock = some k ∨ W8.heap.size ≤ k)) : TurnSt w w9 vO9 vF5 M (k + 1) := by
  obtain ⟨q, hq, hq2⟩ := hk5
  obtain ⟨o, ho, ho2⟩ := hk9
  have s1 := hst.chg.size
  have s2 := hA2.size
  have s5 := hc5.size
  have s8 := hcW.size
  have hltF := own_block_lt hst.flt
  have hltO := own_block_lt hst.out
  refine ⟨HO9.keep (Chg.refl Never w9) (fun _ _ h => h.elim) (fun _ _ h => .inl h), ?_, ?_, ?_, ?_⟩
  · rw [List.replicate_succ']
    refine (HF5.keep (O'' := fun j => vO.ownBlock = some j ∨ j = B) hcW (fun _ _ h => .inr h) (fun _ _ h => h)).keep hc9 (fun _ _ h => .inl h) (fun j hj h => .inl ?_)
    rw [ho] at h
    injection h with h
    subst h
    exact ho2.resolve_right (by omega)
  · intro j hj
    rw [ho] at hj
    injection hj with hj
    subst hj
    exact ho2.elim (fun h => hst.newO _ h) (fun h => by omega)
  · intro j hj
    rw [hq] at hj
    injection hj with hj
    subst hj
    exact hq2.elim (fun h => hst.newF _ h) (fun h => by omega)
  · exact (((hst.chg.trans hA2).trans' hc5 (fun i hi h => absurd (hst.newF i h) (by omega))).trans' hcW (fun i hi h => by omega)).trans' hc9 (fun i hi h => absurd (hst.newO i h) (by omega))
set_option maxHeartbeats 4000000 in
set_option maxRecDepth 100000 in
theorem patch_turn_any (p : List Change) (vp : Value) (w : World) (hp : Rdv w Never vp p) (m : Int) (hm : w.cell? ⟨1, 0, none⟩ = some (.int .i64 m)) :
    Calls Tryz.prog 8 #[vp] w fun e w' => ∃ r, e = .returned (.tuple #[r, errV (patchFault p).2]) ∧ Chg Never w w' ∧ Rdv w' Never r (turnPR p) := by
  obtain ⟨pa, pcap, rfl, p1, p2, p3⟩ := rdv_slice hp
  unfold maxLen at p2
  by_cases y : (patchFault p).2 = 0
  · have Y := Lib.hid y
    have HE : Hid (turnPR p = turnP p) := if_pos y
    have pl := (patch_of y).1
    have PV : Hid (∀ c ∈ p, (hunksFault c.hunks).2 = 0) := fun c hc => by rw [(changeFault_zero ((patch_of y).2.1 c hc)).2.2.2.1]
    clear y
    go_enter Tryz.func8, Tryz.ntmps8
    go_wp2_with fail
    refine (patch_check_any p _ _ hp m hm).mono ?_
    rintro e w1 ⟨rfl, hw⟩
    rw [Y.out, errV_zero]
    go_wp2_with fail
    go_loopw [6, 7, 22] (fun o f i wr => ∃ k : Nat, k ≤ p.length ∧ i = .int .i64 k ∧ TurnSt w wr o f (turnP (p.take k)) k) (fun _ _ i _ => p.length - (intOf i).toNat)
    case atStart => exact ⟨0, Nat.zero_le _, rfl, own_nil _ _ _, own_nil _ _ _, fun k hk => by simp [Value.ownBlock] at hk, fun k hk => by simp [Value.ownBlock] at hk, hw⟩
    case round =>
      clear hw
      rename World => wr
      rename_i vO vF _ 
      obtain ⟨k, hk, rfl, hst⟩ := hrel
      obtain ⟨oa, on, oc, rfl⟩ := own_isSlice hst.out
      obtain ⟨fa, fn, fc, rfl⟩ := own_isSlice hst.flt
      by_cases hlt : k < p.length
      · obtain ⟨c, hx⟩ : ∃ c, p[k]? = some c := ⟨p[k], by simp [hlt]⟩
        obtain ⟨wh, pt, hs⟩ := c
        obtain ⟨pb, po, hv, rfl, _, _, c0, c1, c2, hpc, hhv⟩ := elems_change p3 hx
        simp only at c0 c1 c2 hpc hhv
        obtain ⟨ha, hcap, rfl, _, _, _⟩ := rdv_slice hhv
        have c0 := hst.chg.cellNever c0
        have c1 := hst.chg.cellNever c1
        have c2 := hst.chg.cellNever c2
        have hhv := hhv.never hst.chg
        have HT := Lib.hid (turnP_take hx)
        have HZ : Hid ((hunksFault hs).2 = 0) := PV.out _ (List.mem_of_getElem? hx)
        have HTR : Hid (turnR hs = turnHunks hs) := if_pos HZ.out
        have hB0 := Blk3.new wr 36 (.int .i64 wh) (.string pt) (.slice ha hs.length hcap)
        have hA : Chg Never wr (wr.alloc (.cells #[.int .i64 wh, .string pt, .slice ha hs.length hcap] 36)) := (Chg.refl Never wr).alloc _
        have hltO := own_block_lt hst.out
        have hltF := own_block_lt hst.flt
        have hLl : (turnP (p.take k)).length ≤ 1000000000 := by unfold turnP; rw [List.length_map, List.length_take]; omega
        have hFl : (List.replicate k ()).length ≤ 1000000000 := by rw [List.length_replicate]; omega
        by_cases k2 : wh = 2
        · subst k2
          clear hx p3 hp
          obtain ⟨d0, d1, d2⟩ := hB0.cell
          go_wp2_with fail
          have hBs : (wr.alloc (.cells #[.int .i64 2, .string pt, .slice ha hs.length hcap] 36)).heap.size = wr.heap.size + 1 := World.size_alloc _ _
          generalize wr.alloc (.cells #[.int .i64 2, .string pt, .slice ha hs.length hcap] 36) = wA at hB0 hA hBs d0 d1 d2 ⊢
          clear c0 c1 c2
          refine (turn_any hs _ _ (hhv.never hA)).mono ?_
          rintro e w2 ⟨r2, rfl, hc2, hr2⟩
          rw [HZ.out, errV_zero]
          rw [HTR.out] at hr2
          obtain ⟨ra, rc, rfl, _, _, _⟩ := rdv_slice hr2
          have hA2 := hA.trans hc2
          have hB2 := hB0.keep hc2 (fun h => h)
          have hs2 := hc2.size
          have HO2 : Own 36 w2 (fun j => (Value.slice fa fn fc).ownBlock = some j ∨ j = wr.heap.size) (.slice oa on oc) (turnP (p.take k)) := hst.out.keep hA2 (fun _ _ h => h.elim) (fun j hj h => h.elim (fun h => h) (fun h => by omega))
          have HF2 : Own 28 w2 (fun j => (Value.slice oa on oc).ownBlock = some j ∨ j = wr.heap.size) (.slice fa fn fc) (List.replicate k ()) := hst.flt.keep hA2 (fun _ _ h => h.elim) (fun j hj h => h.elim (fun h => h) (fun h => by omega))
          have hOF : ∀ j, ((Value.slice oa on oc).ownBlock = some j ∨ j = wr.heap.size) → j < w2.heap.size := fun j h => h.elim (fun h => by have := hltO j h; omega) (fun h => by omega)
          clear d0 d1 d2 hB0
          obtain ⟨d0, d1, d2⟩ := hB2.cell
          have hyf : Dat.rd w2 (fun j => ((Value.slice oa on oc).ownBlock = some j ∨ j = wr.heap.size) ∨ (Value.slice fa fn fc).ownBlock = some j) [Value.nilIface] () := rfl
          have hcw := hst.chg.trans hA2
          have hO8 : ∀ j, (Value.slice oa on oc).ownBlock = some j → j < wA.heap.size := fun j h => by have := hltO j h; omega
          have hF8 : ∀ j, (Value.slice fa fn fc).ownBlock = some j → j < wA.heap.size := fun j h => by have := hltF j h; omega
          have hBA : wr.heap.size < wA.heap.size := by omega
          generalize hBg : wr.heap.size = B at *
          go_wp2_with (first
            | (at_builtin; refine wpList_push (by rfl) _ _ 66 (by rfl) elemOk_err (O := fun j => (Value.slice oa on oc).ownBlock = some j ∨ j = B) (l := List.replicate k ()) (y := ()) (by rfl) (by rfl) (by rfl) HF2 hyf hOF hFl ?_; intro vF5 w5 HF5 hc5 hk5; have hB5 := hB2.keep hc5 (fun h => absurd (hltF _ h) (Nat.lt_irrefl _)); clear d0 d1 d2; obtain ⟨d0, d1, d2⟩ := hB5.cell; have df := hB5.free; have df0 := df 0; have df2 := df 2; obtain ⟨ga, gn, gc, rfl⟩ := own_isSlice HF5; have hcW : Chg (fun j => j = B) w5 ((w5.setCell ⟨B, 0, none⟩ (.int .i64 3)).setCell ⟨B, 2, none⟩ (.slice ra (turnHunks hs).length rc)) := ((Chg.refl (fun j => j = B) w5).setCell (p := ⟨B, 0, none⟩) (.inr rfl) _).setCell (p := ⟨B, 2, none⟩) (.inr rfl) _; have hF5l : List.replicate k () ++ [()] = List.replicate (k + 1) () := List.replicate_succ'.symm; have hO9 := turn_lt (hF5l ▸ HF5) hs2 hBA hc5 hcW; have HO8 := turn_out HO2 hc5 hk5 hcW; have hyc : Dat.rd ((w5.setCell ⟨B, 0, none⟩ (.int .i64 3)).setCell ⟨B, 2, none⟩ (.slice ra (turnHunks hs).length rc)) (fun j => ((Value.slice ga gn gc).ownBlock = some j ∨ j = B) ∨ (Value.slice oa on oc).ownBlock = some j) [.int .i64 3, .string pt, .slice ra (turnHunks hs).length rc] (⟨3, pt, turnHunks hs⟩ : Change) := ⟨_, rfl, hpc, turn_rd hr2 hs2 hO8 hF8 hBA hc5 hk5 hcW⟩; clear HO2 HF2 hyf hOF hF5l)
            | (at_builtin; refine wpList_push (by rfl) _ _ 23 (by rfl) elemOk_change (O := fun j => (Value.slice ga gn gc).ownBlock = some j ∨ j = B) (l := turnP (p.take k)) (y := (⟨3, pt, turnHunks hs⟩ : Change)) (by rfl) (by rfl) (by simp) HO8 hyc hO9 hLl ?_; intro vO9 w9 HO9 hc9 hk9))
          subst hBg
          have hfin := turn_step hst hA2 rfl HF5 hc5 hk5 hcW HO9 hc9 hk9
          obtain ⟨oa9, on9, oc9, rfl⟩ := own_isSlice HO9
          clear hc5 hk5 hcW HO9 hc9 hk9 HF5 HO8 hyc hO9 d0 d1 d2 df df0 df2 hB5 hB2
          go_roundw
          case rel => exact ⟨k + 1, by omega, by go_num, by rw [HT.out]; exact hfin⟩
          case measure => simp [intOf] <;> omega
        · by_cases k3 : wh = 3
          · subst k3
            clear k2
            clear hx p3 hp
            obtain ⟨d0, d1, d2⟩ := hB0.cell
            go_wp2_with fail
            have hBs : (wr.alloc (.cells #[.int .i64 3, .string pt, .slice ha hs.length hcap] 36)).heap.size = wr.heap.size + 1 := World.size_alloc _ _
            generalize wr.alloc (.cells #[.int .i64 3, .string pt, .slice ha hs.length hcap] 36) = wA at hB0 hA hBs d0 d1 d2 ⊢
            clear c0 c1 c2
            refine (turn_any hs _ _ (hhv.never hA)).mono ?_
            rintro e w2 ⟨r2, rfl, hc2, hr2⟩
            rw [HZ.out, errV_zero]
            rw [HTR.out] at hr2
            obtain ⟨ra, rc, rfl, _, _, _⟩ := rdv_slice hr2
            have hA2 := hA.trans hc2
            have hB2 := hB0.keep hc2 (fun h => h)
            have hs2 := hc2.size
            have HO2 : Own 36 w2 (fun j => (Value.slice fa fn fc).ownBlock = some j ∨ j = wr.heap.size) (.slice oa on oc) (turnP (p.take k)) := hst.out.keep hA2 (fun _ _ h => h.elim) (fun j hj h => h.elim (fun h => h) (fun h => by omega))
            have HF2 : Own 28 w2 (fun j => (Value.slice oa on oc).ownBlock = some j ∨ j = wr.heap.size) (.slice fa fn fc) (List.replicate k ()) := hst.flt.keep hA2 (fun _ _ h => h.elim) (fun j hj h => h.elim (fun h => h) (fun h => by omega))
            have hOF : ∀ j, ((Value.slice oa on oc).ownBlock = some j ∨ j = wr.heap.size) → j < w2.heap.size := fun j h => h.elim (fun h => by have := hltO j h; omega) (fun h => by omega)
            clear d0 d1 d2 hB0
            obtain ⟨d0, d1, d2⟩ := hB2.cell
            have hyf : Dat.rd w2 (fun j => ((Value.slice oa on oc).ownBlock = some j ∨ j = wr.heap.size) ∨ (Value.slice fa fn fc).ownBlock = some j) [Value.nilIface] () := rfl
            have hcw := hst.chg.trans hA2
            have hO8 : ∀ j, (Value.slice oa on oc).ownBlock = some j → j < wA.heap.size := fun j h => by have := hltO j h; omega
            have hF8 : ∀ j, (Value.slice fa fn fc).ownBlock = some j → j < wA.heap.size := fun j h => by have := hltF j h; omega
            have hBA : wr.heap.size < wA.heap.size := by omega
            generalize hBg : wr.heap.size = B at *
            go_wp2_with (first
              | (at_builtin; refine wpList_push (by rfl) _ _ 66 (by rfl) elemOk_err (O := fun j => (Value.slice oa on oc).ownBlock = some j ∨ j = B) (l := List.replicate k ()) (y := ()) (by rfl) (by rfl) (by rfl) HF2 hyf hOF hFl ?_; intro vF5 w5 HF5 hc5 hk5; have hB5 := hB2.keep hc5 (fun h => absurd (hltF _ h) (Nat.lt_irrefl _)); clear d0 d1 d2; obtain ⟨d0, d1, d2⟩ := hB5.cell; have df := hB5.free; have df0 := df 0; have df2 := df 2; obtain ⟨ga, gn, gc, rfl⟩ := own_isSlice HF5; have hcW : Chg (fun j => j = B) w5 ((w5.setCell ⟨B, 0, none⟩ (.int .i64 2)).setCell ⟨B, 2, none⟩ (.slice ra (turnHunks hs).length rc)) := ((Chg.refl (fun j => j = B) w5).setCell (p := ⟨B, 0, none⟩) (.inr rfl) _).setCell (p := ⟨B, 2, none⟩) (.inr rfl) _; have hF5l : List.replicate k () ++ [()] = List.replicate (k + 1) () := List.replicate_succ'.symm; have hO9 := turn_lt (hF5l ▸ HF5) hs2 hBA hc5 hcW; have HO8 := turn_out HO2 hc5 hk5 hcW; have hyc : Dat.rd ((w5.setCell ⟨B, 0, none⟩ (.int .i64 2)).setCell ⟨B, 2, none⟩ (.slice ra (turnHunks hs).length rc)) (fun j => ((Value.slice ga gn gc).ownBlock = some j ∨ j = B) ∨ (Value.slice oa on oc).ownBlock = some j) [.int .i64 2, .string pt, .slice ra (turnHunks hs).length rc] (⟨2, pt, turnHunks hs⟩ : Change) := ⟨_, rfl, hpc, turn_rd hr2 hs2 hO8 hF8 hBA hc5 hk5 hcW⟩; clear HO2 HF2 hyf hOF hF5l)
              | (at_builtin; refine wpList_push (by rfl) _ _ 23 (by rfl) elemOk_change (O := fun j => (Value.slice ga gn gc).ownBlock = some j ∨ j = B) (l := turnP (p.take k)) (y := (⟨2, pt, turnHunks hs⟩ : Change)) (by rfl) (by rfl) (by simp) HO8 hyc hO9 hLl ?_; intro vO9 w9 HO9 hc9 hk9))
            subst hBg
            have hfin := turn_step hst hA2 rfl HF5 hc5 hk5 hcW HO9 hc9 hk9
            obtain ⟨oa9, on9, oc9, rfl⟩ := own_isSlice HO9
            clear hc5 hk5 hcW HO9 hc9 hk9 HF5 HO8 hyc hO9 d0 d1 d2 df df0 df2 hB5 hB2
            go_roundw
            case rel => exact ⟨k + 1, by omega, by go_num, by rw [HT.out]; exact hfin⟩
            case measure => simp [intOf] <;> omega
          · have t2 : (wh == 2) = false := by simp [k2]
            have t3 : (wh == 3) = false := by simp [k3]
            have HW : Hid (turnC ⟨wh, pt, hs⟩ = ⟨wh, pt, turnHunks hs⟩) := by unfold Hid turnC turnW; rw [if_neg k2, if_neg k3]
            rw [HW.out] at HT
            clear k2 k3
            clear hx p3 hp
            obtain ⟨d0, d1, d2⟩ := hB0.cell
            go_wp2_with fail
            have hBs : (wr.alloc (.cells #[.int .i64 wh, .string pt, .slice ha hs.length hcap] 36)).heap.size = wr.heap.size + 1 := World.size_alloc _ _
            generalize wr.alloc (.cells #[.int .i64 wh, .string pt, .slice ha hs.length hcap] 36) = wA at hB0 hA hBs d0 d1 d2 ⊢
            clear c0 c1 c2
            refine (turn_any hs _ _ (hhv.never hA)).mono ?_
            rintro e w2 ⟨r2, rfl, hc2, hr2⟩
            rw [HZ.out, errV_zero]
            rw [HTR.out] at hr2
            obtain ⟨ra, rc, rfl, _, _, _⟩ := rdv_slice hr2
            have hA2 := hA.trans hc2
            have hB2 := hB0.keep hc2 (fun h => h)
            have hs2 := hc2.size
            have HO2 : Own 36 w2 (fun j => (Value.slice fa fn fc).ownBlock = some j ∨ j = wr.heap.size) (.slice oa on oc) (turnP (p.take k)) := hst.out.keep hA2 (fun _ _ h => h.elim) (fun j hj h => h.elim (fun h => h) (fun h => by omega))
            have HF2 : Own 28 w2 (fun j => (Value.slice oa on oc).ownBlock = some j ∨ j = wr.heap.size) (.slice fa fn fc) (List.replicate k ()) := hst.flt.keep hA2 (fun _ _ h => h.elim) (fun j hj h => h.elim (fun h => h) (fun h => by omega))
            have hOF : ∀ j, ((Value.slice oa on oc).ownBlock = some j ∨ j = wr.heap.size) → j < w2.heap.size := fun j h => h.elim (fun h => by have := hltO j h; omega) (fun h => by omega)
            clear d0 d1 d2 hB0
            obtain ⟨d0, d1, d2⟩ := hB2.cell
            have hyf : Dat.rd w2 (fun j => ((Value.slice oa on oc).ownBlock = some j ∨ j = wr.heap.size) ∨ (Value.slice fa fn fc).ownBlock = some j) [Value.nilIface] () := rfl
            have hcw := hst.chg.trans hA2
            have hO8 : ∀ j, (Value.slice oa on oc).ownBlock = some j → j < wA.heap.size := fun j h => by have := hltO j h; omega
            have hF8 : ∀ j, (Value.slice fa fn fc).ownBlock = some j → j < wA.heap.size := fun j h => by have := hltF j h; omega
            have hBA : wr.heap.size < wA.heap.size := by omega
            generalize hBg : wr.heap.size = B at *
            go_wp2_with (first
              | (at_builtin; refine wpList_push (by rfl) _ _ 66 (by rfl) elemOk_err (O := fun j => (Value.slice oa on oc).ownBlock = some j ∨ j = B) (l := List.replicate k ()) (y := ()) (by rfl) (by rfl) (by rfl) HF2 hyf hOF hFl ?_; intro vF5 w5 HF5 hc5 hk5; have hB5 := hB2.keep hc5 (fun h => absurd (hltF _ h) (Nat.lt_irrefl _)); clear d0 d1 d2; obtain ⟨d0, d1, d2⟩ := hB5.cell; have df := hB5.free; have df0 := df 0; have df2 := df 2; obtain ⟨ga, gn, gc, rfl⟩ := own_isSlice HF5; have hcW : Chg (fun j => j = B) w5 (w5.setCell ⟨B, 2, none⟩ (.slice ra (turnHunks hs).length rc)) := (Chg.refl (fun j => j = B) w5).setCell (p := ⟨B, 2, none⟩) (.inr rfl) _; have hF5l : List.replicate k () ++ [()] = List.replicate (k + 1) () := List.replicate_succ'.symm; have hO9 := turn_lt (hF5l ▸ HF5) hs2 hBA hc5 hcW; have HO8 := turn_out HO2 hc5 hk5 hcW; have hyc : Dat.rd (w5.setCell ⟨B, 2, none⟩ (.slice ra (turnHunks hs).length rc)) (fun j => ((Value.slice ga gn gc).ownBlock = some j ∨ j = B) ∨ (Value.slice oa on oc).ownBlock = some j) [.int .i64 wh, .string pt, .slice ra (turnHunks hs).length rc] (⟨wh, pt, turnHunks hs⟩ : Change) := ⟨_, rfl, hpc, turn_rd hr2 hs2 hO8 hF8 hBA hc5 hk5 hcW⟩; clear HO2 HF2 hyf hOF hF5l)
              | (at_builtin; refine wpList_push (by rfl) _ _ 23 (by rfl) elemOk_change (O := fun j => (Value.slice ga gn gc).ownBlock = some j ∨ j = B) (l := turnP (p.take k)) (y := (⟨wh, pt, turnHunks hs⟩ : Change)) (by rfl) (by rfl) (by simp) HO8 hyc hO9 hLl ?_; intro vO9 w9 HO9 hc9 hk9))
            subst hBg
            have hfin := turn_step hst hA2 rfl HF5 hc5 hk5 hcW HO9 hc9 hk9
            obtain ⟨oa9, on9, oc9, rfl⟩ := own_isSlice HO9
            clear hc5 hk5 hcW HO9 hc9 hk9 HF5 HO8 hyc hO9 d0 d1 d2 df df0 df2 hB5 hB2
            go_roundw
            case rel => exact ⟨k + 1, by omega, by go_num, by rw [HT.out]; exact hfin⟩
            case measure => simp [intOf] <;> omega
      · obtain rfl : k = p.length := by omega
        have hfr := hst.flt.rdv.sub (O' := Never) (fun _ _ h => h.elim)
        have hor := hst.out.rdv.sub (O' := Never) (fun _ _ h => h.elim)
        rw [List.take_length] at hor
        have hcw := hst.chg
        clear hst p3 hp
        go_wp2_with fail
        refine (join_none _ _ _ hfr).mono ?_
        rintro e w9 ⟨rfl, hc9⟩
        go_wp2_with fail
        go_ret2
        exact ⟨_, by rw [Y.out]; rfl, hcw.trans hc9, by rw [HE.out]; exact hor.never hc9⟩
  · have HE : Hid (turnPR p = []) := if_neg y
    have Y := Lib.hid y
    clear y
    go_enter Tryz.func8, Tryz.ntmps8
    go_wp2_with fail
    refine (patch_check_any p _ _ hp m hm).mono ?_
    rintro e w1 ⟨rfl, hw⟩
    rw [errV_pos Y.out]
    go_wp2_with fail
    go_ret2
    exact ⟨.slice none 0 0, by rw [errV_pos Y.out]; rfl, hw, by rw [HE.out]; exact rdv_nil _ _⟩
end Go.Proofs.YteocmmejfnmjcaaGreatDoor
namespace Go.Proofs.YteocmmejfnmjcaaGreatDoor
open Go.RowKit

theorem turn_take {l : List Mark} {j : Nat} {y z : Mark} (hy : l[j]? = some y) (hz : turnMark y = z) : (l.take (j + 1)).map turnMark = (l.take j).map turnMark ++ [z] := by
  rw [List.take_add_one, hy]; simp [hz]

set_option maxHeartbeats 4000000 in
set_option maxRecDepth 100000 in
theorem turnOf_any (l : List Hunk) (v : Value) (w : World) (h : Rdv w Never v l) (hl : l.length ≤ 60) (hm : ∀ x ∈ l, x.marks.length ≤ 120) :
    Calls Tryz.prog 10 #[v] w fun e w' => ∃ r, e = .returned r ∧ Chg Never w w' ∧ Rdv w' (Old w.heap.size) r (turnHunks l) := by
  obtain ⟨a, cap, rfl, h1, h2, h3⟩ := rdv_slice h
  unfold maxLen at h2
  go_enter Tryz.func10, Tryz.ntmps10
  go_wp2_with fail
  go_loopw [3, 4] (fun o i wr => ∃ k : Nat, k ≤ l.length ∧ i = .int .i64 k ∧ Chg Never w wr ∧ Own 61 wr (Old w.heap.size) o (turnHunks (l.take k))) (fun _ i _ => l.length - (intOf i).toNat)
  case atStart => exact ⟨0, Nat.zero_le _, rfl, Chg.refl _ _, own_nil _ _ _⟩
  case round =>
    obtain ⟨k, hk, rfl, hc, hout0⟩ := hrel
    by_cases hlt : k < l.length
    · obtain ⟨x, hx⟩ : ∃ x, l[k]? = some x := ⟨l[k], by simp [hlt]⟩
      obtain ⟨b, off, mv, rfl, _, _, d0, d1, d2, hmv0⟩ := elems_hunk h3 hx
      obtain ⟨ma, mcap, rfl, m1, m2, m3⟩ := rdv_slice hmv0
      unfold maxLen at m2
      have c0 := hc.cellNever d0
      have c1 := hc.cellNever d1
      have HX := Lib.hid hx
      have hml := hm x (List.mem_of_getElem? hx)
      have b1 : (k : Int) < l.length := by omega
      have hlen2 : (turnHunks (l.take k)).length ≤ 1000000000 := by unfold turnHunks; rw [List.length_map, List.length_take]; omega
      clear hx h h3 hmv0
      go_wp2_with fail
      refine wp_region_held_drew (S := fun w' => Chg Never wr w' ∧ w'.cell? ⟨b, off + k * 3, none⟩ = some (.int .i64 x.old) ∧ w'.cell? ⟨b, off + k * 3 + 1, none⟩ = some (.int .i64 x.new)) (by kernel_rfl) ⟨(Chg.refl _ _).drew, c0, c1⟩ (fun hH => ?_)
      refine' wpAnyH_take (i := 0) ?hi0 (by kernel_rfl) (by kernel_rfl) (by kernel_rfl) ?hQ0 (Or.inl ⟨?hw0, ?hy0⟩) (by assumption) ?_
      case hi0 => (simp only [List.getElem?_toArray, List.getElem?_cons_succ, List.getElem?_cons_zero]; rfl)
      case hQ0 => exact fun _ _ _ h => h
      case hw0 => rfl
      case hy0 => (intro w' hSw; (try dsimp only at hSw); go_simp; all_goals with_reducible rfl)
      try simp only [Act.put, List.setIfInBounds_toArray, List.set_cons_zero, List.set_cons_succ]
      refine' wpAnyH_take (i := 1) ?hi1 (by kernel_rfl) (by kernel_rfl) (by kernel_rfl) ?hQ1 (Or.inl ⟨?hw1, ?hy1⟩) (by assumption) ?_
      case hi1 => (simp only [List.getElem?_toArray, List.getElem?_cons_succ, List.getElem?_cons_zero]; rfl)
      case hQ1 => exact fun _ _ _ h => h
      case hw1 => rfl
      case hy1 => (intro w' hSw; (try dsimp only at hSw); go_simp; all_goals with_reducible rfl)
      try simp only [Act.put, List.setIfInBounds_toArray, List.set_cons_zero, List.set_cons_succ]
      refine' wpAnyH_take (i := 2) ?hi2 (by kernel_rfl) (by kernel_rfl) (by kernel_rfl) ?hQ2 (Or.inl ⟨?hw2, ?hy2⟩) (by assumption) ?_
      case hi2 => (simp only [List.getElem?_toArray, List.getElem?_cons_succ, List.getElem?_cons_zero]; rfl)
      case hQ2 => exact fun _ _ _ h => h
      case hw2 => rfl
      case hy2 => (intro w' hSw; (try dsimp only at hSw); go_simp; all_goals with_reducible rfl)
      try simp only [Act.put, List.setIfInBounds_toArray, List.set_cons_zero, List.set_cons_succ]
      refine' wpAnyH_take (i := 3) ?hi3 (by kernel_rfl) (by kernel_rfl) (by kernel_rfl) ?hQ3 (Or.inl ⟨?hw3, ?hy3⟩) (by assumption) ?_
      case hi3 => (simp only [List.getElem?_toArray, List.getElem?_cons_succ, List.getElem?_cons_zero]; rfl)
      case hQ3 => exact fun _ _ _ h => h
      case hw3 => rfl
      case hy3 => (intro w' hSw; (try dsimp only at hSw); go_simp; all_goals with_reducible rfl)
      try simp only [Act.put, List.setIfInBounds_toArray, List.set_cons_zero, List.set_cons_succ]
      refine' wpAnyH_take (i := 4) ?hi4 (by kernel_rfl) (by kernel_rfl) (by kernel_rfl) ?hQ4 (Or.inl ⟨?hw4, ?hy4⟩) (by assumption) ?_
      case hi4 => (simp only [List.getElem?_toArray, List.getElem?_cons_succ, List.getElem?_cons_zero]; rfl)
      case hQ4 => exact fun _ _ _ h => h
      case hw4 => rfl
      case hy4 => (intro w' hSw; (try dsimp only at hSw); go_simp; all_goals with_reducible rfl)
      try simp only [Act.put, List.setIfInBounds_toArray, List.set_cons_zero, List.set_cons_succ]
      refine' wpAnyH_take (i := 5) ?hi5 (by kernel_rfl) (by kernel_rfl) (by kernel_rfl) ?hQ5 (Or.inl ⟨?hw5, ?hy5⟩) (by assumption) ?_
      case hi5 => (simp only [List.getElem?_toArray, List.getElem?_cons_succ, List.getElem?_cons_zero]; rfl)
      case hQ5 => exact fun _ _ _ h => h
      case hw5 => rfl
      case hy5 => (intro w' hSw; (try dsimp only at hSw); go_simp; all_goals with_reducible rfl)
      try simp only [Act.put, List.setIfInBounds_toArray, List.set_cons_zero, List.set_cons_succ]
      refine' wpAnyH_take (i := 6) ?hi6 (by kernel_rfl) (by kernel_rfl) (by kernel_rfl) ?hQ6 (Or.inl ⟨?hw6, ?hy6⟩) (by assumption) ?_
      case hi6 => (simp only [List.getElem?_toArray, List.getElem?_cons_succ, List.getElem?_cons_zero]; rfl)
      case hQ6 => exact fun _ _ _ h => h
      case hw6 => rfl
      case hy6 => (intro w' hSw; (try dsimp only at hSw); go_simp; all_goals with_reducible rfl)
      try simp only [Act.put, List.setIfInBounds_toArray, List.set_cons_zero, List.set_cons_succ]
      refine' wpAnyH_take (i := 7) ?hi7 (by kernel_rfl) (by kernel_rfl) (by kernel_rfl) ?hQ7 (Or.inl ⟨?hw7, ?hy7⟩) (by assumption) ?_
      case hi7 => (simp only [List.getElem?_toArray, List.getElem?_cons_succ, List.getElem?_cons_zero]; rfl)
      case hQ7 => exact fun _ _ _ h => h
      case hw7 => rfl
      case hy7 => (intro w' hSw; (try dsimp only at hSw); go_simp; all_goals with_reducible rfl)
      try simp only [Act.put, List.setIfInBounds_toArray, List.set_cons_zero, List.set_cons_succ]
      refine' wpAnyH_take (i := 8) ?hi8 (by kernel_rfl) (by kernel_rfl) (by kernel_rfl) ?hQ8 (Or.inl ⟨?hw8, ?hy8⟩) (by assumption) ?_
      case hi8 => (simp only [List.getElem?_toArray, List.getElem?_cons_succ, List.getElem?_cons_zero]; rfl)
      case hQ8 => exact fun _ _ _ h => h
      case hw8 => rfl
      case hy8 => (intro w' hSw; (try dsimp only at hSw); go_simp; all_goals with_reducible rfl)
      try simp only [Act.put, List.setIfInBounds_toArray, List.set_cons_zero, List.set_cons_succ]
      refine' wpAnyH_take (i := 9) ?hi9 (by kernel_rfl) (by kernel_rfl) (by kernel_rfl) ?hQ9 (Or.inl ⟨?hw9, ?hy9⟩) (by assumption) ?_
      case hi9 => (simp only [List.getElem?_toArray, List.getElem?_cons_succ, List.getElem?_cons_zero]; rfl)
      case hQ9 => exact fun _ _ _ h => h
      case hw9 => rfl
      case hy9 => (intro w' hSw; (try dsimp only at hSw); go_simp; all_goals with_reducible rfl)
      try simp only [Act.put, List.setIfInBounds_toArray, List.set_cons_zero, List.set_cons_succ]
      refine' wpAnyH_take (i := 10) ?hi10 (by kernel_rfl) (by kernel_rfl) (by kernel_rfl) ?hQ10 (Or.inl ⟨?hw10, ?hy10⟩) (by assumption) ?_
      case hi10 => (simp only [List.getElem?_toArray, List.getElem?_cons_succ, List.getElem?_cons_zero]; rfl)
      case hQ10 => exact fun _ _ _ h => h
      case hw10 => rfl
      case hy10 => (intro w' hSw; (try dsimp only at hSw); go_simp; all_goals with_reducible rfl)
      try simp only [Act.put, List.setIfInBounds_toArray, List.set_cons_zero, List.set_cons_succ]
      refine wpAnyH_ready (rs := [11]) (by kernel_rfl) (by simp) ?_
      refine AllReadyH.cons rfl (fun K hK => ?_) AllReadyH.nil
      go_simp
      refine hK.out _ _ ⟨((Chg.refl Never wr).alloc _).drew, ((Chg.refl Never wr).alloc _).drew.cellNever c0, ((Chg.refl Never wr).alloc _).drew.cellNever c1⟩ (fun hH2 => ?_)
      clear hK K hH
      try simp only [Act.put, List.setIfInBounds_toArray, List.set_cons_zero, List.set_cons_succ]
      refine wpAnyH_ready (rs := [12]) (by kernel_rfl) (by simp) ?_
      refine AllReadyH.cons rfl (fun K hK => ?_) AllReadyH.nil
      go_simp
      refine hK.out _ _ ⟨((Chg.refl Never wr).alloc _).drew, ((Chg.refl Never wr).alloc _).drew.cellNever c0, ((Chg.refl Never wr).alloc _).drew.cellNever c1⟩ (fun hH3 => ?_)
      clear hK K hH2 hH3
      try simp only [Act.put, List.setIfInBounds_toArray, List.set_cons_zero, List.set_cons_succ]
      refine wpAnyH_done (by kernel_rfl) ?_ _
      have hB0 := (Blk3.new wr 61 (.int .i64 x.new) (.int .i64 x.old) (.slice none 0 0)).keep (O := Never) (Chg.refl Never _).drew (fun h => h)
      have hc4 := (hc.alloc (.cells #[.int .i64 x.new, .int .i64 x.old, .slice none 0 0] 61)).drew
      have hout4 := hout0.keep (O'' := fun q => Old w.heap.size q ∨ wr.heap.size ≤ q) ((Chg.refl Never wr).alloc (.cells #[.int .i64 x.new, .int .i64 x.old, .slice none 0 0] 61)).drew (fun _ _ hh => hh.elim) (fun q hq hh => hh.elim (fun h => h) (fun h => by omega))
      have hBge := hc.size
      have hBlt := hB0.lt
      clear hc hout0 c0 c1
      generalize (wr.alloc (.cells #[.int .i64 x.new, .int .i64 x.old, .slice none 0 0] 61)).drew = w4 at hB0 hc4 hout4 hBlt ⊢
      generalize wr.heap.size = B at hB0 hout4 hBge hBlt ⊢
      go_wp2_with fail
      go_loopw [6] (fun i2 wr' => ∃ (j : Nat) (mvv : Value), j ≤ x.marks.length ∧ i2 = .int .i64 j ∧ Chg Never w wr' ∧ Own 61 wr' (fun q => Old w.heap.size q ∨ B ≤ q) u3 (turnHunks (l.take k)) ∧
        Blk3 wr' B 61 (.int .i64 x.new) (.int .i64 x.old) mvv ∧ Own 72 wr' (Old (B + 1)) mvv ((x.marks.take j).map turnMark)) (fun i2 _ => x.marks.length - (intOf i2).toNat)
      case atStart => exact ⟨0, .slice none 0 0, Nat.zero_le _, rfl, hc4, hout4, hB0, own_nil _ _ _⟩
      case round =>
        clear hc4 hout4 hB0
        obtain ⟨j, mvv, hj, rfl, hc, hout, hB, hmk⟩ := hrel
        obtain ⟨qa, qn, qc, rfl⟩ := own_isSlice hmk
        obtain ⟨f0, f1, f2⟩ := hB.cell
        have e2 := hc.cellNever d2
        have hBlt2 := hB.lt
        have hOm : ∀ o : Obj, ∀ q, Old (B + 1) q → q < (wr.alloc o).heap.size := fun o q hq => by rw [World.size_alloc]; unfold Old at hq; omega
        have hml2 : ((x.marks.take j).map turnMark).length ≤ 1000000000 := by rw [List.length_map, List.length_take]; omega
        by_cases hjl : j < x.marks.length
        · obtain ⟨y, hy⟩ : ∃ y, x.marks[j]? = some y := ⟨x.marks[j], by simp [hjl]⟩
          obtain ⟨b', off', rfl, _, _, g0, g1, s0, s1, hxs⟩ := elems_mark m3 hy
          have g0 := hc.cellNever g0
          have g1 := hc.cellNever g1
          obtain ⟨sg, tx⟩ := y
          simp only at g0 g1 s0 s1 hxs
          have HY := Lib.hid hy
          clear hy m3
          by_cases h43 : sg = 43
          · subst h43
            go_wp2_with (at_builtin; refine wpList_push (by rfl) _ _ 59 (by rfl) elemOk_mark (O := Old (B + 1)) (l := (x.marks.take j).map turnMark) (y := ⟨45, tx⟩) (by rfl) (by rfl) (by simp) (hmk.never ((Chg.refl Never wr).alloc _)) (rd_mark _ _ 45 tx (by first | decide | omega) (by first | decide | omega) hxs) (hOm _) hml2 ?_; intro mv' w5 hmk5 hc2 _; obtain ⟨sa, sn, sc, rfl⟩ := own_isSlice hmk5; have hmk4 := hmk.never ((Chg.refl Never wr).alloc (.cells #[.int .u8 45, .string tx] 72)); have hB5 := (hB.keep ((Chg.refl Never wr).alloc _) (fun h => h)).keep hc2 (fun hh => own_out hmk4 _ hh (Nat.lt_succ_self _)); have hout5 := (hout.never ((Chg.refl Never wr).alloc _)).keep (O'' := fun q => Old w.heap.size q ∨ B ≤ q) hc2 (fun q _ hq => .inr (by have := own_out hmk4 q hq; unfold Old at this; omega)) (fun _ _ hh => hh); have hc5 := (hc.alloc (.cells #[.int .u8 45, .string tx] 72)).trans' hc2 (fun i hi hh => own_out hmk4 i hh (by unfold Old; omega)); obtain ⟨g0, g1, g2⟩ := hB5.cell; have g3 := hB5.free 2; clear hc2 hmk4)
            have hB6 := hB5.set2 (.slice sa sn sc)
            have hmk6 := hmk5.keep (O' := fun q => q = B) (O'' := Old (B + 1)) ((Chg.refl (fun q => q = B) w5).setCell (p := ⟨B, 2, none⟩) (.inr rfl) (.slice sa sn sc)) (fun q _ hq => by have h : q = B := hq; unfold Old; omega) (fun _ _ hh => hh)
            have hout6 := hout5.keep (O' := fun q => q = B) (O'' := fun q => Old w.heap.size q ∨ B ≤ q) ((Chg.refl (fun q => q = B) w5).setCell (p := ⟨B, 2, none⟩) (.inr rfl) (.slice sa sn sc)) (fun q _ hq => .inr (Nat.le_of_eq (Eq.symm hq))) (fun _ _ hh => hh)
            have hc6 := hc5.setCell (p := ⟨B, 2, none⟩) (.inl hBge) (.slice sa sn sc)
            clear g0 g1 g2 g3 hB5 hmk5 hout5 hc5 hB hmk hout hc
            go_roundw
            case rel => exact ⟨j + 1, .slice sa sn sc, by omega, by go_num, hc6, hout6, hB6, by rw [turn_take (z := ⟨45, tx⟩) HY.out (by unfold turnMark; simp [*])]; exact hmk6⟩
            case measure => simp [intOf] <;> omega
          · by_cases h45 : sg = 45
            · subst h45
              go_wp2_with (at_builtin; refine wpList_push (by rfl) _ _ 59 (by rfl) elemOk_mark (O := Old (B + 1)) (l := (x.marks.take j).map turnMark) (y := ⟨43, tx⟩) (by rfl) (by rfl) (by simp) (hmk.never ((Chg.refl Never wr).alloc _)) (rd_mark _ _ 43 tx (by first | decide | omega) (by first | decide | omega) hxs) (hOm _) hml2 ?_; intro mv' w5 hmk5 hc2 _; obtain ⟨sa, sn, sc, rfl⟩ := own_isSlice hmk5; have hmk4 := hmk.never ((Chg.refl Never wr).alloc (.cells #[.int .u8 43, .string tx] 72)); have hB5 := (hB.keep ((Chg.refl Never wr).alloc _) (fun h => h)).keep hc2 (fun hh => own_out hmk4 _ hh (Nat.lt_succ_self _)); have hout5 := (hout.never ((Chg.refl Never wr).alloc _)).keep (O'' := fun q => Old w.heap.size q ∨ B ≤ q) hc2 (fun q _ hq => .inr (by have := own_out hmk4 q hq; unfold Old at this; omega)) (fun _ _ hh => hh); have hc5 := (hc.alloc (.cells #[.int .u8 43, .string tx] 72)).trans' hc2 (fun i hi hh => own_out hmk4 i hh (by unfold Old; omega)); obtain ⟨g0, g1, g2⟩ := hB5.cell; have g3 := hB5.free 2; clear hc2 hmk4)
              have hB6 := hB5.set2 (.slice sa sn sc)
              have hmk6 := hmk5.keep (O' := fun q => q = B) (O'' := Old (B + 1)) ((Chg.refl (fun q => q = B) w5).setCell (p := ⟨B, 2, none⟩) (.inr rfl) (.slice sa sn sc)) (fun q _ hq => by have h : q = B := hq; unfold Old; omega) (fun _ _ hh => hh)
              have hout6 := hout5.keep (O' := fun q => q = B) (O'' := fun q => Old w.heap.size q ∨ B ≤ q) ((Chg.refl (fun q => q = B) w5).setCell (p := ⟨B, 2, none⟩) (.inr rfl) (.slice sa sn sc)) (fun q _ hq => .inr (Nat.le_of_eq (Eq.symm hq))) (fun _ _ hh => hh)
              have hc6 := hc5.setCell (p := ⟨B, 2, none⟩) (.inl hBge) (.slice sa sn sc)
              clear g0 g1 g2 g3 hB5 hmk5 hout5 hc5 hB hmk hout hc
              go_roundw
              case rel => exact ⟨j + 1, .slice sa sn sc, by omega, by go_num, hc6, hout6, hB6, by rw [turn_take (z := ⟨43, tx⟩) HY.out (by unfold turnMark; simp [*])]; exact hmk6⟩
              case measure => simp [intOf] <;> omega
            · have t1 : (sg == 43) = false := by simp [h43]
              have t2 : (sg == 45) = false := by simp [h45]
              go_wp2_with (at_builtin; refine wpList_push (by rfl) _ _ 59 (by rfl) elemOk_mark (O := Old (B + 1)) (l := (x.marks.take j).map turnMark) (y := ⟨sg, tx⟩) (by rfl) (by rfl) (by simp) (hmk.never ((Chg.refl Never wr).alloc _)) (rd_mark _ _ sg tx (by first | decide | omega) (by first | decide | omega) hxs) (hOm _) hml2 ?_; intro mv' w5 hmk5 hc2 _; obtain ⟨sa, sn, sc, rfl⟩ := own_isSlice hmk5; have hmk4 := hmk.never ((Chg.refl Never wr).alloc (.cells #[.int .u8 sg, .string tx] 72)); have hB5 := (hB.keep ((Chg.refl Never wr).alloc _) (fun h => h)).keep hc2 (fun hh => own_out hmk4 _ hh (Nat.lt_succ_self _)); have hout5 := (hout.never ((Chg.refl Never wr).alloc _)).keep (O'' := fun q => Old w.heap.size q ∨ B ≤ q) hc2 (fun q _ hq => .inr (by have := own_out hmk4 q hq; unfold Old at this; omega)) (fun _ _ hh => hh); have hc5 := (hc.alloc (.cells #[.int .u8 sg, .string tx] 72)).trans' hc2 (fun i hi hh => own_out hmk4 i hh (by unfold Old; omega)); obtain ⟨g0, g1, g2⟩ := hB5.cell; have g3 := hB5.free 2; clear hc2 hmk4)
              have hB6 := hB5.set2 (.slice sa sn sc)
              have hmk6 := hmk5.keep (O' := fun q => q = B) (O'' := Old (B + 1)) ((Chg.refl (fun q => q = B) w5).setCell (p := ⟨B, 2, none⟩) (.inr rfl) (.slice sa sn sc)) (fun q _ hq => by have h : q = B := hq; unfold Old; omega) (fun _ _ hh => hh)
              have hout6 := hout5.keep (O' := fun q => q = B) (O'' := fun q => Old w.heap.size q ∨ B ≤ q) ((Chg.refl (fun q => q = B) w5).setCell (p := ⟨B, 2, none⟩) (.inr rfl) (.slice sa sn sc)) (fun q _ hq => .inr (Nat.le_of_eq (Eq.symm hq))) (fun _ _ hh => hh)
              have hc6 := hc5.setCell (p := ⟨B, 2, none⟩) (.inl hBge) (.slice sa sn sc)
              clear g0 g1 g2 g3 hB5 hmk5 hout5 hc5 hB hmk hout hc
              go_roundw
              case rel => exact ⟨j + 1, .slice sa sn sc, by omega, by go_num, hc6, hout6, hB6, by rw [turn_take (z := ⟨sg, tx⟩) HY.out (by unfold turnMark; simp [*])]; exact hmk6⟩
              case measure => simp [intOf] <;> omega
        · obtain rfl : j = x.marks.length := by omega
          rw [List.take_length] at hmk
          have hout' := hout.keep (O'' := Old w.heap.size) (Chg.refl Never wr) (fun _ _ hh => hh.elim) (fun _ _ hh => .inl hh)
          have hy : Dat.rd wr (fun q => Old w.heap.size q ∨ u3.ownBlock = some q) [.int .i64 x.new, .int .i64 x.old, .slice qa qn qc] (turnHunk x) := ⟨_, rfl, by
            refine (hmk.rdv).sub ?_
            rintro q hq (hh | hh)
            · unfold Old at *; omega
            · have := own_out hout q hh
              unfold Old at *
              omega⟩
          clear m3
          go_wp2_with (at_builtin; refine wpList_push (by rfl) _ _ 34 (by rfl) elemOk_hunk (O := Old w.heap.size) (l := turnHunks (l.take k)) (y := turnHunk x) (by rfl) (by rfl) (by rfl) hout' hy (old_lt hc) hlen2 ?_; intro v' w7 hout7 hc7 _)
          have hc8 := own_step hc hout' hc7
          clear hc7 hout' hout hc
          go_roundw
          case rel => exact ⟨k + 1, by omega, by go_num, hc8, by rw [turnHunks_take HX.out]; exact hout7⟩
          case measure => simp [intOf] <;> omega
    · obtain rfl : k = l.length := by omega
      rw [List.take_length] at hout0
      go_wp2_with fail
      go_ret
      exact ⟨_, rfl, hc, hout0.rdv⟩
end Go.Proofs.YteocmmejfnmjcaaGreatDoor
namespace Go.Proofs.YteocmmejfnmjcaaGreatDoor
open Go.RowKit

set_option maxHeartbeats 1000000 in
set_option maxRecDepth 100000 in
theorem trees_any (l m : List File) (v u : Value) (w : World) (h : Rdv w Never v l) (g : Rdv w Never u m) :
    Calls Tryz.prog 13 #[v, u] w fun e w' => e = .returned (.bool (decide (l = m))) ∧ Chg Never w w' := by
  obtain ⟨a, cap, rfl, h1, h2, h3⟩ := rdv_slice h
  obtain ⟨c, cap', rfl, g1, g2, g3⟩ := rdv_slice g
  unfold maxLen at h2 g2
  by_cases h4 : l.length = m.length
  · have h4' : ((l.length : Int) != m.length) = false := by simp [h4]
    have H4 := Lib.hid h4
    clear h4
    go_enter Tryz.func13, Tryz.ntmps13
    go_wp2_with fail
    go_loopw [5] (fun i wr => ∃ k : Nat, k ≤ l.length ∧ i = .int .i64 k ∧ Hid (l.take k = m.take k) ∧ Chg Never w wr) (fun i _ => l.length - (intOf i).toNat)
    case atStart => exact ⟨0, Nat.zero_le _, rfl, by simp [Hid], Chg.refl _ _⟩
    case round =>
      obtain ⟨k, hk, rfl, hf, hc⟩ := hrel
      by_cases hlt : k < l.length
      · obtain ⟨x, hx⟩ : ∃ x, l[k]? = some x := ⟨l[k], by simp [hlt]⟩
        obtain ⟨y, hy⟩ : ∃ y, m[k]? = some y := ⟨m[k]'(by rw [← H4.out]; exact hlt), by simp [H4.out ▸ hlt]⟩
        obtain ⟨b, off, mv, rfl, _, _, c0, c1, _, hmv⟩ := elems_file h3 hx
        obtain ⟨b', off', mv', rfl, _, _, d0, d1, _, hmv'⟩ := elems_file g3 hy
        have C0 := Lib.hid c0
        have D0 := Lib.hid d0
        have c1 := hc.cellNever c1
        have d1 := hc.cellNever d1
        have hmv := hmv.never hc
        have hmv' := hmv'.never hc
        clear h3 g3 h g c0 d0
        have hlm : k < m.length := by rw [← H4.out]; exact hlt
        have HX := Lib.hid hx
        have HY := Lib.hid hy
        clear hx hy
        have b1 : (k : Int) < l.length := by omega
        have b2 : (k : Int) < m.length := by omega
        go_wp2_with fail
        refine wp_region_still_tail 10 (by kernel_rfl) (by kernel_rfl) ?_
        simp only [List.take_succ_cons, List.take_zero, List.drop_succ_cons, List.drop_zero]
        change wpStill _ _ wr.drew _ _ _
        repeat still_step
        refine wpStill_nil ?_
        change wpList _ _ _ _ _ wr.drew
        have hcd : Chg Never w wr.drew := hc.drew
        have hmd := hmv.never ((Chg.refl Never wr).drew)
        have hmd' := hmv'.never ((Chg.refl Never wr).drew)
        generalize wr.drew = w3 at hcd hmd hmd'
        clear hmv hmv' c1 d1 hc
        go_wp2_with fail
        refine (texts_any x.lines y.lines _ _ _ hmd hmd').mono ?_
        rintro e w4 ⟨rfl, hc4⟩
        have hc5 := hcd.trans hc4
        have c0 := hc5.cellNever C0.out
        have d0 := hc5.cellNever D0.out
        clear hmd hmd' hcd hc4
        by_cases hls : x.lines = y.lines
        · rw [decide_eq_true hls]
          by_cases hpp : x.path = y.path
          · have hxy : x = y := by
              cases x; cases y
              simp only at hls hpp
              rw [hls, hpp]
            subst hxy
            go_wp2_with fail
            go_quiet (fail)
            go_wp2_with fail
            go_roundw
            case rel => exact ⟨k + 1, by omega, by go_num, take_same hf HX.out HY.out, hc5.drewN _⟩
            case measure => simp [intOf] <;> omega
          · have hxy : x ≠ y := fun e => hpp (by rw [e])
            have t1 := str_beq_false hpp
            have HN := Lib.hid (decide_eq_false (ne_of_get HX.out HY.out hxy))
            clear hls hpp hxy
            go_wp2_with fail
            go_quiet (fail)
            go_wp2_with fail
            go_ret
            exact ⟨by rw [HN.out]; rfl, hc5.drewN _⟩
        · have hxy : x ≠ y := fun e => hls (by rw [e])
          have HN := Lib.hid (decide_eq_false (ne_of_get HX.out HY.out hxy))
          rw [decide_eq_false hls]
          clear hls hxy
          go_wp2_with fail
          go_quiet (fail)
          go_wp2_with fail
          go_ret
          exact ⟨by rw [HN.out]; rfl, hc5.drewN _⟩
      · go_wp2_with fail
        go_ret
        have E : l = m := by
          have := hf.out
          rw [List.take_of_length_le (by omega), List.take_of_length_le (by rw [← H4.out]; omega)] at this
          exact this
        exact ⟨by rw [decide_eq_true E]; rfl, hc⟩
  · have h4' : ((l.length : Int) != m.length) = true := by simp; omega
    go_enter Tryz.func13, Tryz.ntmps13
    go_wp2_with fail
    go_ret
    exact ⟨by rw [decide_eq_false (fun e => h4 (by rw [e]))]; rfl, Chg.refl _ _⟩
end Go.Proofs.YteocmmejfnmjcaaGreatDoor
