/-
  PARTS: THE WALKS of tree.Copy, and of slices.Concat of files.; THE WALK of patch.Apply.; THE WALK of series.Run.; A ROW OF MAILS: its element type.; THE WALK of series.Pack.
-/
import Derived.Test.YtjiaidchcldocaaGreatDoorPa11
import Derived.Test.YtjiaidchcldocaaGreatDoorPa4
import Derived.Test.YtjiaidchcldocaaGreatDoorPa13
import Derived.Test.YtjiaidchcldocaaGreatDoorPa8
import Derived.Test.YtjiaidchcldocaaGreatDoorPa12
import Derived.Test.YtjiaidchcldocaaGreatDoorPa1
import Derived.Test.YtjiaidchcldocaaGreatDoorPa2
import Derived.Test.YtjiaidchcldocaaGreatDoorPa5
import Derived.Test.YtjiaidchcldocaaGreatDoorPa6
import Derived.Deep.RegionHeld3
set_option linter.unusedVariables false
set_option linter.unusedSimpArgs false
namespace Go.Proofs.YtjiaidchcldocaaGreatDoor
open Go.RowKit

theorem take_snoc {α : Type} {l : List α} {k : Nat} {x : α} (hx : l[k]? = some x) : l.take (k + 1) = l.take k ++ [x] := by rw [List.take_add_one, hx]; rfl
set_option maxHeartbeats 2000000 in
set_option maxRecDepth 100000 in
theorem tree_copy_any (t : List File) (v : Value) (w : World) (h : Rdv w Never v t) (hl : t.length ≤ 1000000) (hll : ∀ f ∈ t, f.lines.length ≤ 1000000) :
    Calls Tryz.prog 63 #[v] w fun e w' => ∃ r, e = .returned r ∧ Chg Never w w' ∧ Own 117 w' (Old w.heap.size) r t := by
  obtain ⟨a, cap, rfl, h1, h2, h3⟩ := rdv_slice h
  unfold maxLen at h2
  go_enter Tryz.func63, Tryz.ntmps63
  go_wp2_with fail
  go_loopw [3, 8] (fun o i wr => ∃ k : Nat, k ≤ t.length ∧ i = .int .i64 k ∧ Chg Never w wr ∧ Own 117 wr (Old w.heap.size) o (t.take k)) (fun _ i _ => t.length - (intOf i).toNat)
  case atStart => exact ⟨0, Nat.zero_le _, rfl, Chg.refl _ _, own_nil _ _ _⟩
  case round =>
    obtain ⟨k, hk, rfl, hc, hown⟩ := hrel
    by_cases hlt : k < t.length
    · obtain ⟨x, hx⟩ : ∃ x, t[k]? = some x := ⟨t[k], by simp [hlt]⟩
      obtain ⟨b, off, lv, rfl, _, _, c0, c1, hps, hlv⟩ := elems_file h3 hx
      obtain ⟨la, lcap, rfl, _, _, _⟩ := rdv_slice hlv
      have hxl := hll x (List.mem_of_getElem? hx)
      have c0 := hc.cellNever c0
      have c1 := hc.cellNever c1
      have HT := Lib.hid (take_snoc hx)
      have htl : (t.take k).length ≤ 1000000000 := Nat.le_trans (List.length_take_le _ _) (by omega)
      have hsz := hc.size
      have holt := own_block_lt hown
      have hA : Chg Never wr (wr.alloc (.cells #[.string x.path, .slice la x.lines.length lcap] 117)) := (Chg.refl Never wr).alloc _
      have hBX := Blk2.new wr 117 (.string x.path) (.slice la x.lines.length lcap)
      have hownA := hown.keep (O'' := fun j => Old w.heap.size j ∨ j = wr.heap.size) hA (fun _ _ hh => hh.elim) (by rintro j hj (hh | rfl); exact hh; exact absurd hj (Nat.lt_irrefl _))
      have hlvA := (hlv.never hc).never hA
      have hcA := hc.trans hA
      have hBlt := hBX.lt
      obtain ⟨b0, b1⟩ := hBX.cell
      clear hx h3 h hown hlv
      go_wp2_with fail
      generalize wr.alloc (.cells #[.string x.path, .slice la x.lines.length lcap] 117) = w3 at hBX hownA hlvA hcA hBlt b0 b1 hA ⊢
      generalize hBe : wr.heap.size = B at hBX hownA hBlt b0 b1 hsz holt ⊢
      clear hc hA hBe
      refine (clone_str Never x.lines _ _ hlvA hxl).mono ?_
      rintro e w4 ⟨r4, rfl, hc4, hown4⟩
      obtain ⟨ra, rn, rc, rfl⟩ := own_isSlice hown4
      have hB4 := hBX.keep hc4 (fun h => h)
      have b3 := hB4.free
      have hB5 := hB4.set1 (.slice ra rn rc)
      obtain ⟨b0, b1⟩ := hB4.cell
      obtain ⟨k0, k1⟩ := hB5.cell
      have hS : Chg (fun j => j = B) w4 (w4.setCell ⟨B, 1, none⟩ (.slice ra rn rc)) := (Chg.refl (fun j => j = B) w4).setCell (p := ⟨B, 1, none⟩) (.inr rfl) _
      have hown5 := (hownA.never hc4).keep (O'' := Old w.heap.size) hS (fun j _ hh => .inr hh) (fun j _ hh => .inl hh)
      have hr := (hown4.keep (O'' := Old w3.heap.size) hS (fun j _ hh => by subst hh; exact hBlt) (fun _ _ hh => hh)).rdv
      have hc5 := (hcA.trans hc4).setCell (p := ⟨B, 1, none⟩) (.inl hsz) (.slice ra rn rc)
      have hszw := hcA.size
      have hy : Dat.rd (w4.setCell ⟨B, 1, none⟩ (.slice ra rn rc)) (fun j => Old w.heap.size j ∨ u3.ownBlock = some j) [.string x.path, .slice ra rn rc] x := ⟨_, rfl, hps, hr.sub (fun j _ hh => by
        rcases hh with hh | hh
        · exact Nat.lt_of_lt_of_le hh hszw
        · exact Nat.lt_trans (holt j hh) hBlt)⟩
      clear hr hS hB4 hBX hown4 hc4 hownA hcA hlvA hB5
      go_wp2_with (at_builtin; refine wpList_push (by rfl) _ _ 41 (by rfl) elemOk_file (O := Old w.heap.size) (l := t.take k) (y := x) (by rfl) (by rfl) (by simp) hown5 hy (old_lt hc5) htl ?_; intro v' w6 hown6 hc6 _)
      have hc7 := own_step hc5 hown5 hc6
      clear hc6 hown5 hy
      go_wp2_with fail
      go_roundw
      case rel => exact ⟨k + 1, by omega, by go_num, hc7, by rw [HT.out]; exact hown6⟩
      case measure => simp [intOf] <;> omega
    · rw [List.take_of_length_le (by omega)] at hown
      go_wp2_with fail
      go_ret
      exact ⟨_, rfl, hc, hown⟩
end Go.Proofs.YtjiaidchcldocaaGreatDoor
namespace Go.Proofs.YtjiaidchcldocaaGreatDoor
open Go.RowKit

theorem apply_step {T : List File} {p : List Change} {k : Nat} {c : Change} (hd : p.drop k = c :: p.drop (k + 1)) (hz : (stepOf (look T c.path) c).2 = 0) : applyGo k T (p.drop k) = applyGo (k + 1) (setAt T c.path (stepOf (look T c.path) c).1) (p.drop (k + 1)) := by
  rw [hd, applyGo, if_neg (by rw [hz]; decide)]
theorem apply_bad {T : List File} {p : List Change} {k : Nat} {c : Change} (hd : p.drop k = c :: p.drop (k + 1)) (hz : (stepOf (look T c.path) c).2 ≠ 0) : applyGo k T (p.drop k) = ([], k, (stepOf (look T c.path) c).2) := by
  rw [hd, applyGo, if_pos hz]
theorem apply_end {T : List File} {p : List Change} : applyGo p.length T (p.drop p.length) = (T, 0, 0) := by rw [List.drop_length]; rfl
theorem find_is {T : List File} (hs : Sorted T) {p : ByteArray} (h : isAt T p = true) : ∃ f, T[posOf T p]? = some f ∧ f.path = p ∧ look T p = some f.lines ∧ posOf T p < T.length := by
  unfold isAt at h
  cases hf : T[posOf T p]? with
  | none => rw [hf] at h; cases h
  | some f =>
    rw [hf, Option.any_some] at h
    have hp := of_decide_eq_true h
    have := look_mem hs (List.mem_of_getElem? hf)
    rw [hp] at this
    exact ⟨f, rfl, hp, this, (List.getElem?_eq_some_iff.1 hf).1⟩
theorem find_not {T : List File} (hs : Sorted T) {p : ByteArray} (h : isAt T p = false) : look T p = none ∧ posOf T p ≤ T.length := by
  obtain ⟨A, C, h1, h2, _, _, h5, h6⟩ := tree_split hs p
  rcases h6 with ⟨h6, _⟩ | ⟨_, rfl⟩
  · rw [h6] at h; cases h
  · refine ⟨look_none fun x hx => ?_, by rw [h5, List.length_append]; omega⟩
    rcases List.mem_append.1 hx with hx | hx
    · exact less_ne (h1 x hx)
    · exact (less_ne (h2 x hx)).symm
theorem set_put {T : List File} {p : ByteArray} {l : List ByteArray} (h : isAt T p = false) : setAt T p (some l) = insAt T (posOf T p) ⟨p, l⟩ := by
  show putAt T ⟨p, l⟩ = _
  unfold putAt insAt
  rw [if_neg (by rw [h]; decide)]
theorem set_edit {T : List File} {p : ByteArray} {l : List ByteArray} (h : isAt T p = true) (hl : posOf T p < T.length) : setAt T p (some l) = insAt (dropAt T (posOf T p)) (posOf T p) ⟨p, l⟩ := by
  show putAt T ⟨p, l⟩ = _
  unfold putAt insAt dropAt
  have e : (T.take (posOf T p)).length = posOf T p := by rw [List.length_take]; omega
  rw [if_pos h]
  show _ = (T.take (posOf T p) ++ T.drop (posOf T p + 1)).take (posOf T p) ++ ⟨p, l⟩ :: (T.take (posOf T p) ++ T.drop (posOf T p + 1)).drop (posOf T p)
  congr 1
  · conv => rhs; arg 1; rw [← e]
    rw [List.take_left]
  · congr 1
    conv => rhs; arg 1; rw [← e]
    rw [List.drop_left]
theorem ins_len {T : List File} {i : Nat} {f : File} (h : i ≤ T.length) : (insAt T i f).length = T.length + 1 := by unfold insAt; rw [List.length_append, List.length_take, List.length_cons, List.length_drop]; omega
theorem drop_len {T : List File} {i : Nat} (h : i < T.length) : (dropAt T i).length = T.length - 1 := by unfold dropAt; rw [List.length_append, List.length_take, List.length_drop]; omega
theorem done_ok {there : Bool} {L : List ByteArray} {c : Change} (z : (doneR there L c).2.2 = 0) : (c.what = 2 → there = false) ∧ (c.what ≠ 2 → there = true) ∧ (doneR there L c).2.1 = decide (c.what ≠ 3) := by
  unfold doneR at z ⊢
  by_cases h1 : c.what = 2 ∧ there = true
  · rw [if_pos h1] at z; cases z
  · rw [if_neg h1] at z ⊢
    by_cases h2 : c.what ≠ 2 ∧ there = false
    · rw [if_pos h2] at z; cases z
    · rw [if_neg h2] at z ⊢
      by_cases h3 : (strict L c.hunks).2.2 ≠ 0
      · rw [if_pos h3] at z; exact absurd z h3
      · rw [if_neg h3] at z ⊢
        by_cases h4 : c.what = 3 ∧ (strict L c.hunks).1 ≠ []
        · rw [if_pos h4] at z; cases z
        · rw [if_neg h4]
          refine ⟨fun e => ?_, fun e => ?_, rfl⟩
          · cases there with
            | false => rfl
            | true => exact absurd ⟨e, rfl⟩ h1
          · cases there with
            | true => rfl
            | false => exact absurd ⟨e, rfl⟩ h2
theorem applyR_tree {t : List File} {p : List Change} (h : (treeFault t).2 ≠ 0) : applyR t p = ([], 0, (treeFault t).2) := if_pos h
theorem applyR_patch {t : List File} {p : List Change} (h : (treeFault t).2 = 0) (g : (patchFault p).2 ≠ 0) : applyR t p = ([], (patchFault p).1, (patchFault p).2) := by unfold applyR; rw [if_neg (by rw [h]; decide), if_pos g]
theorem applyR_go {t : List File} {p : List Change} (h : (treeFault t).2 = 0) (g : (patchFault p).2 = 0) {r : List File} {k : Nat} {e : Int} (x : applyGo 0 t p = (r, k, e)) : applyR t p = if e ≠ 0 then (r, k, e) else if 8 < r.length then ([], 0, 3) else (r, 0, 0) := by
  unfold applyR; rw [if_neg (by rw [h]; decide), if_neg (by rw [g]; decide), x]
def ApplyPost (t : List File) (p : List Change) (w : World) (e : Ending) (w' : World) : Prop := ∃ r, e = .returned (.tuple #[r, .int .i64 (applyR t p).2.1, errV (applyR t p).2.2]) ∧ Chg Never w w' ∧ Rdv w' Never r (applyR t p).1
theorem applyPost_bad {t : List File} {p : List Change} {k : Nat} {e : Int} {w w' : World} (h : applyR t p = ([], k, e)) (hc : Chg Never w w') : ApplyPost t p w (.returned (.tuple #[.slice none 0 0, .int .i64 k, errV e])) w' :=
  ⟨_, by rw [h], hc, by rw [h]; exact rdv_nil _ _⟩
theorem applyPost_ok {t R : List File} {p : List Change} {w w' : World} {r : Value} (h : applyR t p = (R, 0, 0)) (hc : Chg Never w w') (hr : Rdv w' Never r R) : ApplyPost t p w (.returned (.tuple #[r, .int .i64 0, .nilIface])) w' :=
  ⟨r, by rw [h]; rfl, hc, by rw [h]; exact hr⟩
theorem own_weak {α : Type} [Dat α] {e : TypeId} {w0 w w' : World} {v : Value} {l : List α} (h : Own e w' (Old w.heap.size) v l) (hc : Chg Never w0 w) (hc' : Chg Never w w') : OwnN e w0 w' v l :=
  ⟨h.keep (O'' := Never) (Chg.refl Never w') (fun _ _ h => h.elim) (fun _ _ h => h.elim), fun k hk => by
    obtain ⟨_, _, q, _⟩ := h
    have := q k hk
    have hs := hc.size
    unfold Old at this
    omega, hc.trans hc'⟩
set_option maxHeartbeats 4000000 in
set_option maxRecDepth 100000 in
theorem apply_any (t : List File) (p : List Change) (vt vp : Value) (w : World) (ht : Rdv w Never vt t) (hp : Rdv w Never vp p) (m : Int) (hm : w.cell? ⟨1, 0, none⟩ = some (.int .i64 m)) :
    Calls Tryz.prog 31 #[vt, vp] w fun e w' => ApplyPost t p w e w' := by
  obtain ⟨ta, tcap, rfl, _, _, _⟩ := rdv_slice ht
  obtain ⟨pa, pcap, rfl, p1, p2, _⟩ := rdv_slice hp
  unfold maxLen at p2
  by_cases z : (treeFault t).2 = 0
  · have Z := Lib.hid z
    by_cases y : (patchFault p).2 = 0
    · have Y := Lib.hid y
      have t8 := (treeFault_zero z).1
      have tl := (treeFault_zero z).2.1
      have tsrt := Lib.hid (treeFault_zero z).2.2.1
      have pl := (patch_of y).1
      have tl60 : ∀ f ∈ t, f.lines.length ≤ 1000000 := fun f hf => by
        have := linesFault_len (fileFault_lines (tl f hf))
        omega
      clear z y tl
      go_enter Tryz.func31, Tryz.ntmps31
      go_wp2_with fail
      refine (tree_check_any t _ _ ht m hm).mono ?_
      rintro e w1 ⟨rfl, hw⟩
      rw [Z.out, errV_zero]
      go_wp2_with fail
      refine (patch_check_any p _ _ (hp.never hw) m (hw.cellNever hm)).mono ?_
      rintro e w2 ⟨rfl, hc2⟩
      have hw := hw.trans hc2
      clear hc2
      rw [Y.out, errV_zero]
      go_wp2_with fail
      refine (tree_copy_any t _ _ (ht.never hw) (by omega) tl60).mono ?_
      rintro e w3 ⟨r3, rfl, hc3, hown⟩
      have hn0 := own_weak hown hw hc3
      clear hown hc3 hw tl60
      go_wp2_with fail
      go_loopw [11, 40] (fun v i wr => ∃ (k : Nat) (T : List File), k ≤ p.length ∧ i = .int .i64 k ∧ OwnN 117 w wr v T ∧ Hid (Sorted T) ∧ T.length ≤ 8 + k ∧ Hid (applyGo k T (p.drop k) = applyGo 0 t p)) (fun _ i _ => p.length - (intOf i).toNat)
      case atStart => exact ⟨0, t, Nat.zero_le _, rfl, hn0, tsrt, by omega, rfl⟩
      case round =>
        clear hn0
        rename World => wr
        obtain ⟨k, T, hk, rfl, hn, hS, hTl, hG⟩ := hrel
        obtain ⟨oa, ocap, rfl, o1, o2, o3⟩ := rdv_slice hn.own.rdv
        unfold maxLen at o2
        have hT : T.length ≤ 1000000 := by omega
        by_cases hlt : k < p.length
        · obtain ⟨c, hx⟩ : ∃ c, p[k]? = some c := ⟨p[k], by simp [hlt]⟩
          obtain ⟨_, _, hpa, _, _, p3⟩ := rdv_slice hp
          injection hpa with hpa1 hpa2 hpa3
          subst hpa1
          clear hpa2 hpa3
          obtain ⟨pb, po, hv, rfl, _, _, c0, c1, c2, hpc, hhv⟩ := elems_change p3 hx
          obtain ⟨ha, hcap, rfl, _, _, _⟩ := rdv_slice hhv
          have hhv := Lib.hid hhv
          have c0 := hn.chg.cellNever c0
          have c1 := hn.chg.cellNever c1
          have c2 := hn.chg.cellNever c2
          have HD := Lib.hid (drop_eq hx)
          obtain ⟨hA, d0, d1, d2⟩ := box1_change wr 85 c.what c.path (.slice ha c.hunks.length hcap) _ rfl
          have DS := Lib.hid (done_step (look T c.path) c)
          clear hx p3
          cases hi : isAt T c.path with
          | true =>
            obtain ⟨f, hf, hfp, hlk, hpos⟩ := find_is hS.out hi
            have IS := Lib.hid hi
            rw [hlk] at DS
            have HLK := Lib.hid hlk
            obtain ⟨fb, fo, flv, rfl, _, _, _, f1, _, hfl⟩ := elems_file o3 hf
            clear hi hf hlk o3 hfp
            have F1 := Lib.hid f1
            clear f1
            go_wp2_with fail
            generalize wr.alloc (.cells #[.int .i64 c.what, .string c.path, .slice ha c.hunks.length hcap] 85) = wA at hA d0 d1 d2 ⊢
            have hnA := hn.never hA
            have HLT := own_block_lt hn.own
            clear hn c0 c1 c2
            refine (treefind_any T c.path _ _ (hnA.own.rdv.sub (fun _ _ h => h.elim)) hS.out hT).mono ?_
            rintro e w4 ⟨rfl, hc4⟩
            have hn4 := hnA.never hc4
            have d0 := hc4.cellNever d0
            have d1 := hc4.cellNever d1
            have d2 := hc4.cellNever d2
            have hQ := hA.trans hc4
            clear hnA hA hc4
            rw [IS.out]
            have f1 := hQ.cellNever F1.out
            have hfl4 := (hfl.never hQ).sub (O' := Never) (fun _ _ h => h.elim)
            go_wp2_with fail
            refine (done_any true f.lines c _ _ _ (hfl4) (hhv.out.never hn4.chg)).mono ?_
            rintro e w5 ⟨r5, rfl, hc5, hr5⟩
            have hnD := hn4.never hc5
            have d0 := hc5.cellNever d0
            have d1 := hc5.cellNever d1
            have d2 := hc5.cellNever d2
            obtain ⟨ra, rc, rfl, _, _, _⟩ := rdv_slice hr5
            clear f1 hfl4
            have HST : Hid ((stepOf (look T c.path) c).2 = (doneR true f.lines c).2.2) := by rw [Hid, HLK.out, DS.out]; rfl
            by_cases hst : (stepOf (look T c.path) c).2 = 0
            · have hd0 := hst
              rw [HST.out] at hd0
              have HST0 := Lib.hid hst
              have HD0 := Lib.hid hd0
              obtain ⟨q1, q2, q3⟩ := done_ok hd0
              have k2 : c.what ≠ 2 := fun e => absurd (q1 e) (by decide)
              have t2 : (c.what == 2) = false := by simp [k2]
              have t2' : (c.what != 2) = true := by simp [k2]
              have hrf := hn4.fresh hr5
              have HSS0 : Hid (Sorted (setAt T c.path (stepOf (look T c.path) c).1)) := setAt_sorted hS.out (step_at hS.out (Prod.ext rfl HST0.out))
              have HNX0 : Hid (applyGo (k + 1) (setAt T c.path (stepOf (look T c.path) c).1) (p.drop (k + 1)) = applyGo 0 t p) := by rw [Hid, ← apply_step HD.out HST0.out]; exact hG.out
              have hdl := drop_len hpos
              rw [HD0.out, errV_zero]
              by_cases k3 : c.what = 3
              · have q3' : (doneR true f.lines c).2.1 = false := by rw [q3, k3]; rfl
                have HSET : Hid (setAt T c.path (stepOf (look T c.path) c).1 = dropAt T (posOf T c.path)) := by
                  rw [Hid, HLK.out, DS.out]
                  show setAt T c.path (if (doneR true f.lines c).2.1 = true then some (doneR true f.lines c).1 else none) = _
                  rw [if_neg (by rw [q3']; decide)]; rfl
                rw [q3']
                clear hst hd0 q1 q2 q3 q3' k2 k3 hr5 hc5 hrf d1 d2
                go_wp2_with fail
                refine (delete_any T (posOf T c.path) _ w w5 hnD hpos hT).mono ?_
                rintro e w8 ⟨r8, rfl, hn8, _, _⟩
                obtain ⟨va8, vn8, vc8, rfl⟩ := own_isSlice hn8.own
                clear d0 hnD hn4
                go_wp2_with fail
                go_roundw
                case rel => exact ⟨k + 1, _, by omega, by go_num, hn8, by rw [← HSET.out]; exact HSS0, by omega, by rw [← HSET.out]; exact HNX0⟩
                case measure => simp [intOf] <;> omega
              · have q3' : (doneR true f.lines c).2.1 = true := by rw [q3]; exact decide_eq_true k3
                have HSET : Hid (setAt T c.path (stepOf (look T c.path) c).1 = insAt (dropAt T (posOf T c.path)) (posOf T c.path) ⟨c.path, (doneR true f.lines c).1⟩) := by
                  rw [Hid, HLK.out, DS.out]
                  show setAt T c.path (if (doneR true f.lines c).2.1 = true then some (doneR true f.lines c).1 else none) = _
                  rw [if_pos q3', set_edit IS.out hpos]
                have HIL := Lib.hid (ins_len (T := dropAt T (posOf T c.path)) (i := posOf T c.path) (f := ⟨c.path, (doneR true f.lines c).1⟩) (by omega))
                rw [q3']
                clear hst hd0 q1 q2 q3 q3' k2 k3 hr5 hc5 d2
                go_wp2_with fail
                refine (delete_any T (posOf T c.path) _ w w5 hnD hpos hT).mono ?_
                rintro e w8 ⟨r8, rfl, hn8, hch8, hob8⟩
                have d1 := hch8.cell d1 (fun h => absurd (HLT _ h) (Nat.lt_irrefl _))
                have hrf8 := hrf.keep (O'' := fun k => Never k ∨ r8.ownBlock = some k) hch8 (fun k _ h => .inr h) (fun k _ h => h.imp_right (hob8 k))
                have hlt8 := own_block_lt hn8.own
                obtain ⟨va8, vn8, vc8, rfl⟩ := own_isSlice hn8.own
                clear d0 hnD hn4 hrf hch8 hob8
                have hnB := heap_alloc_new w8 (.cells #[.string c.path, .slice ra (doneR true f.lines c).1.length rc] 117)
                have hAB : Chg Never w8 (w8.alloc (.cells #[.string c.path, .slice ra (doneR true f.lines c).1.length rc] 117)) := (Chg.refl Never w8).alloc _
                go_wp2_with fail
                generalize w8.alloc (.cells #[.string c.path, .slice ra (doneR true f.lines c).1.length rc] 117) = wB at hnB hAB ⊢
                refine (insert_any (dropAt T (posOf T c.path)) (posOf T c.path) ⟨c.path, (doneR true f.lines c).1⟩ _ (.slice ra (doneR true f.lines c).1.length rc) w wB w8.heap.size 117 (hn8.never hAB) (by omega) (by omega) hnB (fun k hk e => absurd (hlt8 k hk) (by rw [e]; omega)) ⟨_, rfl, hpc, hrf8.never hAB⟩).mono ?_
                rintro e w9 ⟨r9, rfl, hn9⟩
                obtain ⟨va9, vn9, vc9, rfl⟩ := own_isSlice hn9.own
                clear hnB hAB d1 hrf8 hn8
                go_wp2_with fail
                go_roundw
                case rel => exact ⟨k + 1, _, by omega, by go_num, hn9, by rw [← HSET.out]; exact HSS0, by rw [HIL.out]; omega, by rw [← HSET.out]; exact HNX0⟩
                case measure => simp [intOf] <;> omega
            · have E := applyPost_bad (w := w) (applyR_go Z.out Y.out (by rw [← hG.out]; exact apply_bad HD.out hst) |>.trans (if_pos hst)) hnD.chg
              have hst' := hst
              rw [HST.out] at E hst'
              rw [errV_pos hst'] at E ⊢
              clear hst hst' d0 d1 d2
              go_wp2_with fail
              go_ret3
              exact E
          | false =>
            obtain ⟨hlk, hpos⟩ := find_not hS.out hi
            have IS := Lib.hid hi
            rw [hlk] at DS
            have HLK := Lib.hid hlk
            clear hi hlk o3
            go_wp2_with fail
            generalize wr.alloc (.cells #[.int .i64 c.what, .string c.path, .slice ha c.hunks.length hcap] 85) = wA at hA d0 d1 d2 ⊢
            have hnA := hn.never hA
            have HLT := own_block_lt hn.own
            clear hn c0 c1 c2
            refine (treefind_any T c.path _ _ (hnA.own.rdv.sub (fun _ _ h => h.elim)) hS.out hT).mono ?_
            rintro e w4 ⟨rfl, hc4⟩
            have hn4 := hnA.never hc4
            have d0 := hc4.cellNever d0
            have d1 := hc4.cellNever d1
            have d2 := hc4.cellNever d2
            have hQ := hA.trans hc4
            clear hnA hA hc4
            rw [IS.out]
            go_wp2_with fail
            refine (done_any false ([] : List ByteArray) c _ _ _ ((rdv_nil _ _)) (hhv.out.never hn4.chg)).mono ?_
            rintro e w5 ⟨r5, rfl, hc5, hr5⟩
            have hnD := hn4.never hc5
            have d0 := hc5.cellNever d0
            have d1 := hc5.cellNever d1
            have d2 := hc5.cellNever d2
            obtain ⟨ra, rc, rfl, _, _, _⟩ := rdv_slice hr5
            have HST : Hid ((stepOf (look T c.path) c).2 = (doneR false [] c).2.2) := by rw [Hid, HLK.out, DS.out]; rfl
            by_cases hst : (stepOf (look T c.path) c).2 = 0
            · have hd0 := hst
              rw [HST.out] at hd0
              have HST0 := Lib.hid hst
              have HD0 := Lib.hid hd0
              obtain ⟨q1, q2, q3⟩ := done_ok hd0
              have k2 : c.what = 2 := by
                by_cases e : c.what = 2
                · exact e
                · exact absurd (q2 e) (by decide)
              have q3' : (doneR false [] c).2.1 = true := by rw [q3, k2]; rfl
              have t2 : (c.what == 2) = true := by simp [k2]
              have hrf := hn4.fresh hr5
              have HSET : Hid (setAt T c.path (stepOf (look T c.path) c).1 = insAt T (posOf T c.path) ⟨c.path, (doneR false [] c).1⟩) := by
                rw [Hid, HLK.out, DS.out]
                show setAt T c.path (if (doneR false [] c).2.1 = true then some (doneR false [] c).1 else none) = _
                rw [if_pos q3', set_put IS.out]
              have HNX : Hid (applyGo (k + 1) (insAt T (posOf T c.path) ⟨c.path, (doneR false [] c).1⟩) (p.drop (k + 1)) = applyGo 0 t p) := by rw [Hid, ← HSET.out, ← apply_step HD.out HST0.out]; exact hG.out
              have HSS : Hid (Sorted (insAt T (posOf T c.path) ⟨c.path, (doneR false [] c).1⟩)) := by
                rw [Hid, ← HSET.out]
                exact setAt_sorted hS.out (step_at hS.out (Prod.ext rfl HST0.out))
              have HIL := Lib.hid (ins_len (T := T) (f := ⟨c.path, (doneR false [] c).1⟩) hpos)
              rw [HD0.out, errV_zero, q3']
              clear hst hd0 q1 q2 q3 q3' k2 hr5 hc5 HSET
              have hlt8 := own_block_lt hnD.own
              have hnB := heap_alloc_new w5 (.cells #[.string c.path, .slice ra (doneR false [] c).1.length rc] 117)
              have hAB : Chg Never w5 (w5.alloc (.cells #[.string c.path, .slice ra (doneR false [] c).1.length rc] 117)) := (Chg.refl Never w5).alloc _
              go_wp2_with fail
              generalize w5.alloc (.cells #[.string c.path, .slice ra (doneR false [] c).1.length rc] 117) = wB at hnB hAB ⊢
              refine (insert_any T (posOf T c.path) ⟨c.path, (doneR false [] c).1⟩ _ (.slice ra (doneR false [] c).1.length rc) w wB w5.heap.size 117 (hnD.never hAB) hpos hT hnB (fun k hk e => absurd (hlt8 k hk) (by rw [e]; omega)) ⟨_, rfl, hpc, hrf.never hAB⟩).mono ?_
              rintro e w8 ⟨r8, rfl, hn8⟩
              obtain ⟨va8, vn8, vc8, rfl⟩ := own_isSlice hn8.own
              clear hnB hAB d0 d1 d2 hrf hnD hn4
              go_wp2_with fail
              go_roundw
              case rel => exact ⟨k + 1, _, by omega, by go_num, hn8, HSS, by rw [HIL.out]; omega, HNX⟩
              case measure => simp [intOf] <;> omega
            · have E := applyPost_bad (w := w) (applyR_go Z.out Y.out (by rw [← hG.out]; exact apply_bad HD.out hst) |>.trans (if_pos hst)) hnD.chg
              have hst' := hst
              rw [HST.out] at E hst'
              rw [errV_pos hst'] at E ⊢
              clear hst hst' d0 d1 d2
              go_wp2_with fail
              go_ret3
              exact E
        · obtain rfl : k = p.length := by omega
          have hGo := hG.out
          rw [apply_end] at hGo
          have hR := applyR_go Z.out Y.out hGo.symm
          rw [if_neg (by decide)] at hR
          by_cases h8 : 8 < T.length
          · rw [if_pos h8] at hR
            have E := applyPost_bad (k := 0) hR hn.chg
            rw [errV_pos (by decide)] at E
            clear hR hGo hG
            go_wp2_with fail
            go_ret3
            exact E
          · rw [if_neg h8] at hR
            have HR := Lib.hid hR
            have hr := hn.own.rdv.sub (O' := Never) (fun _ _ h => h.elim)
            clear hR hGo hG
            go_wp2_with fail
            go_ret3
            exact applyPost_ok HR.out hn.chg hr
    · have HE := Lib.hid (applyR_patch z y)
      have Y := Lib.hid y
      have Z := Lib.hid z
      clear z y
      go_enter Tryz.func31, Tryz.ntmps31
      go_wp2_with fail
      refine (tree_check_any t _ _ ht m hm).mono ?_
      rintro e w1 ⟨rfl, hw⟩
      rw [Z.out, errV_zero]
      go_wp2_with fail
      refine (patch_check_any p _ _ (hp.never hw) m (hw.cellNever hm)).mono ?_
      rintro e w2 ⟨rfl, hc2⟩
      have E := applyPost_bad HE.out (hw.trans hc2)
      rw [errV_pos Y.out] at E ⊢
      go_wp2_with fail
      go_ret3
      exact E
  · have HE := Lib.hid (applyR_tree (p := p) z)
    have Z := Lib.hid z
    clear z
    go_enter Tryz.func31, Tryz.ntmps31
    go_wp2_with fail
    refine (tree_check_any t _ _ ht m hm).mono ?_
    rintro e w1 ⟨rfl, hw⟩
    have E := applyPost_bad HE.out hw
    rw [errV_pos Z.out] at E ⊢
    go_wp2_with fail
    go_ret3
    exact E
end Go.Proofs.YtjiaidchcldocaaGreatDoor
namespace Go.Proofs.YtjiaidchcldocaaGreatDoor
open Go.RowKit

def runF (t : List File) (l : List Mail) : Int := if (treeFault t).2 ≠ 0 then (treeFault t).2 else if (openMs l).2.2 ≠ 0 then (openMs l).2.2 else (runGoS t (openMs l).2.1).2
def runR (t : List File) (l : List Mail) : List File := if runF t l = 0 then (runGoS t (openMs l).2.1).1 else []
theorem runGo_step {t x : List File} {p : List (List Change)} {k : Nat} {c : List Change} (h : runGoS x (p.drop k) = runGoS t p) (hx : p[k]? = some c) :
    ((applyR x c).2.2 = 0 → runGoS (applyR x c).1 (p.drop (k + 1)) = runGoS t p) ∧ ((applyR x c).2.2 ≠ 0 → runGoS t p = ([], (applyR x c).2.2)) := by
  rw [drop_eq hx, runGoS] at h
  exact ⟨fun z => by rw [if_pos z] at h; exact h, fun z => by rw [if_neg z] at h; exact h.symm⟩
def SRunPost (t : List File) (l : List Mail) (w : World) (e : Ending) (w' : World) : Prop := ∃ r, e = .returned (.tuple #[r, errV (runF t l)]) ∧ Chg Never w w' ∧ Rdv w' Never r (runR t l)
theorem srun_no {t : List File} {l : List Mail} {w w' : World} {e : Ending} {k : Int} (hk : runF t l = k) (h0 : k ≠ 0) (he : e = .returned (.tuple #[.slice none 0 0, errV k])) (hc : Chg Never w w') : SRunPost t l w e w' :=
  ⟨_, by rw [hk]; exact he, hc, by unfold runR; rw [if_neg (by rw [hk]; exact h0)]; exact rdv_nil _ _⟩
set_option maxHeartbeats 2000000 in
set_option maxRecDepth 100000 in
theorem srun_any (t : List File) (l : List Mail) (vt vl : Value) (w : World) (ht : Rdv w Never vt t) (hl : Rdv w Never vl l) (hl9 : l.length ≤ 1000000000) (mx : Int) (hg : Globs w mx) :
    Calls Tryz.prog 22 #[vt, vl] w (SRunPost t l w) := by
  have hm := hg.ml
  go_enter Tryz.func22, Tryz.ntmps22
  go_wp2_with fail
  refine (tree_check_any t _ _ ht mx hm).mono ?_
  rintro e w1 ⟨rfl, hc1⟩
  by_cases z : (treeFault t).2 = 0
  · have HT := Lib.hid (tree_iff.2 z)
    have HF1 : Hid (runF t l = if (openMs l).2.2 ≠ 0 then (openMs l).2.2 else (runGoS t (openMs l).2.1).2) := if_neg (by rw [z]; simp)
    rw [z, errV_zero]
    clear z
    go_wp2_with fail
    refine (sopen_any l _ _ (hl.never hc1) hl9 mx (hg.never hc1)).mono ?_
    rintro e w2 ⟨r2, rfl, hc2, hr2⟩
    have hw2 := hc1.trans hc2
    by_cases y : (openMs l).2.2 = 0
    · have HF2 : Hid (runF t l = (runGoS t (openMs l).2.1).2) := by rw [Hid, HF1.out, if_neg (by rw [y]; simp)]
      rw [y, errV_zero]
      clear y HF1
      have HRR : Hid (runF t l = 0 → runR t l = (runGoS t (openMs l).2.1).1) := fun q => if_pos q
      generalize (openMs l).1 = title
      generalize (openMs l).2.1 = p at hr2 HF2 HRR
      obtain ⟨pa, pcap, rfl, p1, p2, p3⟩ := rdv_slice hr2
      unfold maxLen at p2
      have ht2 := ht.never hw2
      go_wp2_with fail
      refine (tree_copy_any t _ _ ht2 (by have := HT.out.1; omega) (fun f hf => by have := linesFault_len (fileFault_lines (HT.out.2.1 f hf)); omega)).mono ?_
      rintro e w3 ⟨r3, rfl, hc3, hown3⟩
      have hr3 : Rdv w3 Never r3 t := hown3.rdv.sub (fun k _ hk => hk.elim)
      have hw3 := hw2.trans hc3
      clear hown3 ht2
      go_wp2_with fail
      go_loopw [0, 34] (fun tv iv wr => ∃ (k : Nat) (x : List File), k ≤ p.length ∧ iv = .int .i64 k ∧ Chg Never w3 wr ∧ Rdv wr Never tv x ∧ Hid (runGoS x (p.drop k) = runGoS t p)) (fun _ iv _ => p.length - (intOf iv).toNat)
      case atStart => exact ⟨0, t, Nat.zero_le _, rfl, Chg.refl _ _, hr3, rfl⟩
      case round =>
        clear hr3
        obtain ⟨k, x, hk, rfl, hc, hx, hgo⟩ := hrel
        rename World => wr
        obtain ⟨xa, xc, rfl, _, _, _⟩ := rdv_slice hx
        by_cases hlt : k < p.length
        · obtain ⟨c, hcx⟩ : ∃ c, p[k]? = some c := ⟨p[k], by simp [hlt]⟩
          obtain ⟨b, off, cv, rfl, _, _, d0, hcv⟩ := elems_row p3 hcx
          have d0 := (hc3.trans hc).cellNever d0
          have hcv := (hcv.never hc3).never hc
          obtain ⟨ca, cc, rfl, _, _, _⟩ := rdv_slice hcv
          obtain ⟨st1, st2⟩ := runGo_step hgo.out hcx
          clear hcx p3 hgo
          go_wp2_with fail
          refine (apply_any x c _ _ _ hx hcv mx ((hw3.trans hc).cellNever hm)).mono ?_
          rintro e w4 ⟨r4, rfl, hc4, hr4⟩
          have hc := hc.trans hc4
          generalize (applyR x c).2.1 = an
          by_cases za : (applyR x c).2.2 = 0
          · have HS := Lib.hid (st1 za)
            rw [za, errV_zero]
            clear za st1 st2
            go_wp2_with fail
            go_roundw
            case rel => exact ⟨k + 1, _, by omega, by go_num, hc, hr4, HS⟩
            case measure => simp [intOf] <;> omega
          · have HF3 : Hid (runF t l = (applyR x c).2.2) := by rw [Hid, HF2.out, st2 za]
            have ZA := Lib.hid za
            rw [errV_pos za]
            clear za st1 st2 hr4
            go_wp2_with fail
            go_ret2
            exact srun_no HF3.out ZA.out (by rw [errV_pos ZA.out]; rfl) (hw3.trans hc)
        · have hgo' := hgo.out
          rw [List.drop_of_length_le (by omega), runGoS] at hgo'
          have HF3 : Hid (runF t l = 0) := by rw [Hid, HF2.out, ← hgo']
          have HR3 : Hid (runR t l = x) := by rw [Hid, HRR.out HF3.out, ← hgo']
          clear hgo' hgo p3
          go_wp2_with fail
          go_ret2
          exact ⟨_, by rw [HF3.out]; rfl, hw3.trans hc, by rw [HR3.out]; exact hx⟩
    · have HF2 : Hid (runF t l = (openMs l).2.2) := by rw [Hid, HF1.out, if_pos y]
      have Y := Lib.hid y
      rw [errV_pos y]
      obtain ⟨pa, pcap, rfl, _, _, _⟩ := rdv_slice hr2
      generalize (openMs l).2.1.length = pn
      generalize (openMs l).1 = title
      clear y hr2
      go_wp2_with fail
      go_ret2
      exact srun_no HF2.out Y.out (by rw [errV_pos Y.out]; rfl) hw2
  · have HF1 : Hid (runF t l = (treeFault t).2) := if_pos z
    have Z := Lib.hid z
    rw [errV_pos z]
    clear z
    go_wp2_with fail
    go_ret2
    exact srun_no HF1.out Z.out (by rw [errV_pos Z.out]; rfl) hc1
end Go.Proofs.YtjiaidchcldocaaGreatDoor
namespace Go.Proofs.YtjiaidchcldocaaGreatDoor
open Go.RowKit

theorem elemOk_mail : ElemOk Tryz.prog 24 31 4 := elemOk_of Tryz.underlying24 (z := .agg #[.string ⟨#[]⟩, .string ⟨#[]⟩, .string ⟨#[]⟩, .slice none 0 0]) (b := 72) (by kernel_rfl) rfl (by decide)
end Go.Proofs.YtjiaidchcldocaaGreatDoor
namespace Go.Proofs.YtjiaidchcldocaaGreatDoor
open Go.RowKit

theorem conv_made {w : World} {s : ByteArray} (hs : s.size ≤ maxLen) : ∃ (a : Addr) (c : Nat) (w' : World),
    (convert 9 29 (.string s)).run Tryz.prog w = .ok (.slice (some a) s.size c) w' ∧ Chg Never w w' ∧ Rdv w' (Old w.heap.size) (.slice (some a) s.size c) s.data.toList := by
  obtain ⟨c, o, h1, h2⟩ := conv_bytes (w := w) hs
  exact ⟨_, c, _, h1, (Chg.refl Never w).drew.alloc o, h2⟩
theorem own_mail1 {w : World} {O : Nat → Prop} {g : Nat} {m : Mail} {v : Value} (h : w.heap[g]? = some (.cells #[.string m.sender, .string m.subject, .string m.ident, v] 31 (0, 0))) (hO : ¬ O g)
    (z1 : m.sender.size ≤ maxLen) (z2 : m.subject.size ≤ maxLen) (z3 : m.ident.size ≤ maxLen) (hv : Rdv w (fun k => O k ∨ some g = some k) v m.body) : Own 31 w O (.slice (some ⟨g, 0, none⟩) 1 1) [m] := by
  refine ⟨[.string m.sender, .string m.subject, .string m.ident, v], ⟨rfl, .inr ⟨g, 1, #[.string m.sender, .string m.subject, .string m.ident, v], rfl, Nat.zero_le _, h, Nat.le_refl _, by unfold maxLen; omega, rfl, rfl⟩⟩, ?_, ?_⟩
  · intro k hk
    simp only [Value.ownBlock, Option.some.injEq] at hk
    subst hk
    exact hO
  · intro i x hi
    match i, hi with
    | 0, hi =>
      simp only [List.getElem?_cons_zero, Option.some.injEq] at hi
      subst hi
      exact ⟨v, rfl, z1, z2, z3, hv⟩
theorem pkeep {O O' : Nat → Prop} {w2 wr wq : World} {B : Nat} {a b c d : Value} (h : Chg O w2 wr ∧ wr.cell? ⟨B, 0, none⟩ = some a ∧ wr.cell? ⟨B, 1, none⟩ = some b ∧ wr.cell? ⟨B, 2, none⟩ = some c ∧ wr.cell? ⟨B, 3, none⟩ = some d) (k : Chg O' wr wq) (hO : ∀ x, O' x → O x) (hB : ¬ O B) :
    Chg O w2 wq ∧ wq.cell? ⟨B, 0, none⟩ = some a ∧ wq.cell? ⟨B, 1, none⟩ = some b ∧ wq.cell? ⟨B, 2, none⟩ = some c ∧ wq.cell? ⟨B, 3, none⟩ = some d := by
  have k := k.mono (fun x _ => hO x)
  exact ⟨h.1.trans k, k.cell h.2.1 hB, k.cell h.2.2.1 hB, k.cell h.2.2.2.1 hB, k.cell h.2.2.2.2 hB⟩
theorem subj_len (a b : Nat) (t : List UInt8) (ha : a ≤ 8) (hb : b ≤ 8) : (subjL a b t).length = 12 + t.length := by
  unfold subjL patW
  simp only [List.length_append, List.length_cons, List.length_nil, dig_small a ha, dig_small b hb]
  omega
theorem id_len (a b : Nat) (ha : a ≤ 8) (hb : b ≤ 8) : (idL a b).length = 3 := by
  unfold idL
  simp only [List.length_append, List.length_cons, List.length_nil, dig_small a ha, dig_small b hb]
set_option maxHeartbeats 4000000 in
set_option maxRecDepth 100000 in
theorem pack_any (t : ByteArray) (p : List (List Change)) (v : Value) (w : World) (h : Rdv w Never v p) (ht : t.size ≤ 1000000000) (m : Int) (hm : w.cell? ⟨1, 0, none⟩ = some (.int .i64 m)) :
    Calls Tryz.prog 11 #[.string t, v] w fun e w' => ∃ r, e = .returned (.tuple #[r, errV (packF t.data.toList p)]) ∧ Chg Never w w' ∧ Rdv w' Never r (packR t.data.toList p) := by
  obtain ⟨a, cap, rfl, h1, h2, h3⟩ := rdv_slice h
  unfold maxLen at h2
  have htm : t.size ≤ maxLen := by unfold maxLen; omega
  by_cases h8 : 8 < p.length
  · have HF : Hid (packF t.data.toList p = 3) := if_pos h8
    have HR : Hid (packR t.data.toList p = []) := if_neg (by rw [HF.out]; decide)
    have t1 : decide ((8 : Int) < (p.length : Int)) = true := decide_eq_true (by omega)
    clear h h3
    go_enter Tryz.func11, Tryz.ntmps11
    go_wp2_with fail
    go_ret2
    exact ⟨_, by rw [HF.out]; rfl, Chg.refl _ _, by rw [HR.out]; exact rdv_nil _ _⟩
  · have t1 : decide ((8 : Int) < (p.length : Int)) = false := decide_eq_false (by omega)
    cases htt : titledB t.data.toList with
    | false =>
      have HF : Hid (packF t.data.toList p = 5) := (if_neg h8).trans (if_pos htt)
      have HR : Hid (packR t.data.toList p = []) := if_neg (by rw [HF.out]; decide)
      have HT := Lib.hid htt
      clear h h3 htt
      go_enter Tryz.func11, Tryz.ntmps11
      go_wp2_with fail
      refine (titled_any t _ htm).mono ?_
      rintro e w1 ⟨rfl, rfl⟩
      rename World => w
      rw [HT.out]
      go_wp2_with fail
      go_ret2
      exact ⟨_, by rw [HF.out]; rfl, Chg.refl _ _, by rw [HR.out]; exact rdv_nil _ _⟩
    | true =>
      have hF0 : packF t.data.toList p = firstOf packFault p := (if_neg h8).trans (if_neg (by rw [htt]; decide))
      have HF := Lib.hid hF0
      have HT := Lib.hid htt
      have htl := (titled_ok htt).2.1
      rw [← Lib.size_eq] at htl
      obtain ⟨n, hN⟩ : ∃ n, p.length = n := ⟨_, rfl⟩
      have HN := Lib.hid hN
      have hn8 : n ≤ 8 := by omega
      have HPL : Hid (packL t.data.toList p = partMail t.data.toList 0 n [] :: packGo t.data.toList n 1 p) := by unfold Hid packL; rw [hN]
      have FS : ∀ (i : Nat) (k : Int), k = i → i ≤ 8 → ∀ wx, Calls Tryz.prog 44 #[.agg #[.string t, .int .i64 k, .int .i64 n, .slice none 0 0]] wx fun e w' => e = .returned (.string (toB (subjL i n t.data.toList))) ∧ Chg Never wx w' := by
        rintro i k rfl hi wx
        exact subject_any t i n _ wx hi hn8 ht rfl
      have FI : ∀ (i : Nat) (k : Int), k = i → i ≤ 8 → ∀ wx, Calls Tryz.prog 45 #[.agg #[.string t, .int .i64 k, .int .i64 n, .slice none 0 0]] wx fun e w' => e = .returned (.string (toB (idL i n))) ∧ Chg Never wx w' := by
        rintro i k rfl hi wx
        exact partid_any t i n _ wx hi hn8
      have FS := Lib.hid FS
      have FI := Lib.hid FI
      have FS0 := Lib.hid (FS.out 0 0 rfl (by omega))
      have FI0 := Lib.hid (FI.out 0 0 rfl (by omega))
      rw [hN] at h1 t1 ⊢
      clear h htt h8 hF0 hN
      obtain ⟨hA, c0, c1, c2, c3⟩ := box1_part w 97 t 0 n (.slice none 0 0) _ rfl
      go_enter Tryz.func11, Tryz.ntmps11
      go_wp2_with fail
      refine (titled_any t _ htm).mono ?_
      rintro e w1 ⟨rfl, rfl⟩
      rename World => w
      rw [HT.out]
      go_wp2_with fail
      obtain ⟨wA, hwA⟩ : ∃ wA, w.alloc (.cells #[.string t, .int .i64 0, .int .i64 n, .slice none 0 0] 97) = wA := ⟨_, rfl⟩
      obtain ⟨B, hB⟩ : ∃ B, w.heap.size = B := ⟨_, rfl⟩
      rw [hwA] at hA c0 c1 c2 c3 ⊢
      rw [hB] at c0 c1 c2 c3 ⊢
      have hBw := Lib.hid hB
      clear hwA hB
      have hBO : ¬ Never B := fun h => h
      refine wp_region_held_drew (S := fun w' => Chg Never wA w' ∧ w'.cell? ⟨B, 0, none⟩ = some (.string t) ∧ w'.cell? ⟨B, 1, none⟩ = some (.int .i64 0) ∧ w'.cell? ⟨B, 2, none⟩ = some (.int .i64 n) ∧ w'.cell? ⟨B, 3, none⟩ = some (.slice none 0 0)) (by kernel_rfl) ⟨(Chg.refl Never wA).drew, c0, c1, c2, c3⟩ (fun hH => ?_)
      refine' wpAnyH_take (i := 0) ?hi0 (by kernel_rfl) (by kernel_rfl) (by kernel_rfl) ?hQ0 (Or.inl ⟨?hw0, ?hy0⟩) (by assumption) ?_
      case hi0 => (simp only [List.getElem?_toArray, List.getElem?_cons_zero]; rfl)
      case hQ0 => exact fun _ _ _ h => h
      case hw0 => rfl
      case hy0 => (intro w' hSw; (try dsimp only at hSw); go_simp; all_goals with_reducible rfl)
      try simp only [Act.put, List.setIfInBounds_toArray, List.set_cons_zero, List.set_cons_succ]
      refine' wpAnyH_take (i := 2) ?hi2 (by kernel_rfl) (by kernel_rfl) (by kernel_rfl) ?hQ2 (Or.inl ⟨?hw2, ?hy2⟩) (by assumption) ?_
      case hi2 => (simp only [List.getElem?_toArray, List.getElem?_cons_succ, List.getElem?_cons_zero]; rfl)
      case hQ2 => exact fun _ _ _ h => h
      case hw2 => rfl
      case hy2 => (intro w' hSw; (try dsimp only at hSw); go_simp; all_goals with_reducible rfl)
      try simp only [Act.put, List.setIfInBounds_toArray, List.set_cons_zero, List.set_cons_succ]
      refine wpAnyH_ready (rs := [1]) (by kernel_rfl) (by simp) ?_
      refine AllReadyH.cons rfl (fun K hK => ?_) AllReadyH.nil
      go_simp
      go_at_call 44
      refine (FS0.out _).mono ?_
      rintro e wq ⟨rfl, hcq⟩
      try go_wp2_with fail
      refine hK.out _ _ (pkeep hH hcq (fun _ h => h.elim) hBO) (fun hH => ?_)
      clear hK K
      try simp only [Act.put, List.setIfInBounds_toArray, List.set_cons_zero, List.set_cons_succ]
      refine wpAnyH_ready (rs := [3]) (by kernel_rfl) (by simp) ?_
      refine AllReadyH.cons rfl (fun K hK => ?_) AllReadyH.nil
      go_simp
      go_at_call 45
      refine (FI0.out _).mono ?_
      rintro e wq ⟨rfl, hcq⟩
      try go_wp2_with fail
      refine hK.out _ _ (pkeep hH hcq (fun _ h => h.elim) hBO) (fun hH => ?_)
      clear hK K
      try simp only [Act.put, List.setIfInBounds_toArray, List.set_cons_zero, List.set_cons_succ]
      refine' wpAnyH_take (i := 4) ?hi4 (by kernel_rfl) (by kernel_rfl) (by kernel_rfl) ?hQ4 (Or.inl ⟨?hw4, ?hy4⟩) (by assumption) ?_
      case hi4 => (simp only [List.getElem?_toArray, List.getElem?_cons_succ, List.getElem?_cons_zero]; rfl)
      case hQ4 => exact fun _ _ _ h => h
      case hw4 => rfl
      case hy4 => (intro w' hSw; (try dsimp only at hSw); go_simp; all_goals with_reducible rfl)
      try simp only [Act.put, List.setIfInBounds_toArray, List.set_cons_zero, List.set_cons_succ]
      refine wpAnyH_ready (rs := [5]) (by kernel_rfl) (by simp) ?_
      refine AllReadyH.cons rfl (fun K hK => ?_) AllReadyH.nil
      go_simp
      have hn1 := heap_alloc_new wq (.cells #[.string ⟨#[104, 97, 110, 100, 115, 116, 105, 116, 99, 104]⟩, .string (toB (subjL 0 n t.data.toList)), .string (toB (idL 0 n)), .slice none 0 0] 31)
      refine hK.out _ _ (pkeep (by assumption) ((Chg.refl Never _).alloc _) (fun _ h => h.elim) hBO) (fun hH => ?_)
      clear hK K
      try simp only [Act.put, List.setIfInBounds_toArray, List.set_cons_zero, List.set_cons_succ]
      refine' wpAnyH_take (i := 6) ?hi6 (by kernel_rfl) (by kernel_rfl) (by kernel_rfl) ?hQ6 (Or.inl ⟨?hw6, ?hy6⟩) (by assumption) ?_
      case hi6 => (simp only [List.getElem?_toArray, List.getElem?_cons_succ, List.getElem?_cons_zero]; rfl)
      case hQ6 => exact fun _ _ _ h => h
      case hw6 => rfl
      case hy6 => (intro w' hSw; (try dsimp only at hSw); go_simp; all_goals with_reducible rfl)
      try simp only [Act.put, List.setIfInBounds_toArray, List.set_cons_zero, List.set_cons_succ]
      refine wpAnyH_done (by kernel_rfl) ?_ _
      have hF : Chg Never wA (wq.alloc (.cells #[.string ⟨#[104, 97, 110, 100, 115, 116, 105, 116, 99, 104]⟩, .string (toB (subjL 0 n t.data.toList)), .string (toB (idL 0 n)), .slice none 0 0] 31)) := And.left (by assumption)
      have hcF := hA.trans hF
      have hle : w.heap.size ≤ wq.heap.size := by
        have := hF.size
        have h2 := hA.size
        have h3 := hcq.size
        have h4 := (And.left (by assumption) : Chg Never wA wq).size
        omega
      have hown1 : Own 31 _ Never (.slice (some ⟨wq.heap.size, 0, none⟩) 1 1) [partMail t.data.toList 0 n []] := own_mail1 hn1 (fun h => h) (by show (toB handW).size ≤ _; rw [toB_size']; decide) (by show (toB (subjL 0 n t.data.toList)).size ≤ _; rw [toB_size', subj_len 0 n _ (by omega) hn8, ← Lib.size_eq]; unfold maxLen; omega) (by show (toB (idL 0 n)).size ≤ _; rw [toB_size', id_len 0 n (by omega) hn8]; decide) (rdv_nil _ _)
      have hnn : OwnN 31 w _ (.slice (some ⟨wq.heap.size, 0, none⟩) 1 1) [partMail t.data.toList 0 n []] := ⟨hown1, fun k hk => by simp only [Value.ownBlock, Option.some.injEq] at hk; subst hk; exact hle, hcF⟩
      clear hn1 hown1 hF c0 c1 c2 c3 hA hBw hBO
      generalize wq.alloc (.cells #[.string ⟨#[104, 97, 110, 100, 115, 116, 105, 116, 99, 104]⟩, .string (toB (subjL 0 n t.data.toList)), .string (toB (idL 0 n)), .slice none 0 0] 31) = wL at hnn hcF ⊢
      go_wp2_with fail
      go_loopw [7, 33] (fun ov iv wr => ∃ i : Nat, i ≤ n ∧ iv = .int .i64 i ∧ OwnN 31 w wr ov (partMail t.data.toList 0 n [] :: packGo t.data.toList n 1 (p.take i)) ∧ Hid (firstOf packFault (p.drop i) = firstOf packFault p)) (fun _ iv _ => n - (intOf iv).toNat)
      case atStart => exact ⟨0, Nat.zero_le _, rfl, hnn, rfl⟩
      case round =>
        clear hnn hcF hle
        obtain ⟨i, hi, rfl, hn, hf⟩ := hrel
        rename World => wr
        obtain ⟨va, vn, vc, rfl⟩ := own_isSlice hn.own
        by_cases hlt : i < n
        · obtain ⟨c, hx⟩ : ∃ c, p[i]? = some c := ⟨_, List.getElem?_eq_getElem (by have := HN.out; omega)⟩
          obtain ⟨b, off, cv, rfl, -, -, d0, hcv⟩ := elems_row h3 hx
          have HPT0 : partMail t.data.toList 0 n [] :: packGo t.data.toList n 1 (p.take (i + 1)) = (partMail t.data.toList 0 n [] :: packGo t.data.toList n 1 (p.take i)) ++ [packOne t.data.toList n (i + 1) c] := by rw [packGo_take hx]; rfl
          have HPT := Lib.hid HPT0
          obtain ⟨st1, st2⟩ := firstOf_from hf.out hx
          have hLl : (partMail t.data.toList 0 n [] :: packGo t.data.toList n 1 (p.take i)).length ≤ 1000000000 := by rw [List.length_cons, packGo_len, List.length_take]; omega
          obtain ⟨L, hL⟩ : ∃ L, (partMail t.data.toList 0 n [] :: packGo t.data.toList n 1 (p.take i)) = L := ⟨_, rfl⟩
          rw [hL] at hn HPT hLl
          have d0 := hn.chg.cellNever d0
          have hcv := hcv.never hn.chg
          have hmr := hn.chg.cellNever hm
          clear hx hf h3 hL HPT0
          go_wp2_with fail
          refine (gitprint_any c _ _ hcv m hmr).mono ?_
          rintro e w1 ⟨rfl, hc1⟩
          have hn1 := hn.never hc1
          by_cases hz : (patchFault c).2 = 0
          · have HG : gitR c = toB (textG c) := if_pos hz
            have HPF : packFault c = if 40000 < (textG c).length then 3 else 0 := if_neg (by rw [hz]; decide)
            by_cases h4 : 40000 < (textG c).length
            · have HPF := HPF.trans (if_pos h4)
              have HF2 : Hid (packF t.data.toList p = 3) := by rw [Hid, HF.out, st2 (by rw [HPF]; decide), HPF]
              have HR : Hid (packR t.data.toList p = []) := if_neg (by rw [HF2.out]; decide)
              have t4 : decide ((40000 : Int) < ((toB (textG c)).size : Int)) = true := decide_eq_true (by rw [toB_size']; omega)
              rw [HG, hz, errV_zero]
              generalize toB (textG c) = S at t4 ⊢
              clear HPF h4 HG hz st1 st2 hcv
              go_wp2_with fail
              go_ret2
              exact ⟨_, by rw [HF2.out]; rfl, hn1.chg, by rw [HR.out]; exact rdv_nil _ _⟩
            · have HS2 : Hid (firstOf packFault (p.drop (i + 1)) = firstOf packFault p) := st1 (by rw [HPF, if_neg h4])
              have t4 : decide ((40000 : Int) < ((toB (textG c)).size : Int)) = false := decide_eq_false (by rw [toB_size']; omega)
              have zS : (toB (textG c)).size ≤ 40000 := by rw [toB_size']; omega
              have HST0 : (toB (textG c)).data.toList = textG c := toB_data _
              rw [HG, hz, errV_zero]
              obtain ⟨S, hS⟩ : ∃ S, toB (textG c) = S := ⟨_, rfl⟩
              rw [hS] at t4 zS HST0 ⊢
              have HST := Lib.hid HST0
              have hSm : S.size ≤ maxLen := by unfold maxLen; omega
              have hin : i + 1 ≤ n := hlt
              have FSi := Lib.hid (FS.out (i + 1) ((i : Int) + 1) (by omega) (by omega))
              have FIi := Lib.hid (FI.out (i + 1) ((i : Int) + 1) (by omega) (by omega))
              have zs : (toB (subjL (i + 1) n t.data.toList)).size ≤ maxLen := by rw [toB_size', subj_len _ n _ (by omega) hn8, ← Lib.size_eq]; unfold maxLen; omega
              have zi : (toB (idL (i + 1) n)).size ≤ maxLen := by rw [toB_size', id_len _ n (by omega) hn8]; decide
              have hBO : ¬ OwnB (.slice va vn vc) w1.heap.size := fun h => Nat.lt_irrefl _ (own_block_lt hn1.own _ h)
              obtain ⟨hA2, c0, c1, c2, c3⟩ := box1_part w1 97 t ((i : Int) + 1) n (.slice none 0 0) _ rfl
              clear HPF h4 HG hz st1 st2 hcv hS HST0 hn1
              go_wp2_with fail
              obtain ⟨wB, hwB⟩ : ∃ wB, w1.alloc (.cells #[.string t, .int .i64 ((i : Int) + 1), .int .i64 n, .slice none 0 0] 97) = wB := ⟨_, rfl⟩
              obtain ⟨B, hB⟩ : ∃ B, w1.heap.size = B := ⟨_, rfl⟩
              rw [hwB] at hA2 c0 c1 c2 c3 ⊢
              rw [hB] at c0 c1 c2 c3 hBO ⊢
              have hd := (hc1.trans hA2).drew
              clear hwB hB hc1 hA2
              refine wp_region_held_drew (S := fun w' => Chg (OwnB (.slice va vn vc)) wB w' ∧ w'.cell? ⟨B, 0, none⟩ = some (.string t) ∧ w'.cell? ⟨B, 1, none⟩ = some (.int .i64 ((i : Int) + 1)) ∧ w'.cell? ⟨B, 2, none⟩ = some (.int .i64 n) ∧ w'.cell? ⟨B, 3, none⟩ = some (.slice none 0 0)) (by kernel_rfl) ⟨(Chg.refl _ wB).drew, c0, c1, c2, c3⟩ (fun hH => ?_)
              refine' wpAnyH_take (i := 0) ?hi0 (by kernel_rfl) (by kernel_rfl) (by kernel_rfl) ?hQ0 (Or.inl ⟨?hw0, ?hy0⟩) (by assumption) ?_
              case hi0 => (simp only [List.getElem?_toArray, List.getElem?_cons_zero]; rfl)
              case hQ0 => exact fun _ _ _ h => h
              case hw0 => rfl
              case hy0 => (intro w' hSw; (try dsimp only at hSw); go_simp; all_goals with_reducible rfl)
              try simp only [Act.put, List.setIfInBounds_toArray, List.set_cons_zero, List.set_cons_succ]
              refine' wpAnyH_take (i := 1) ?hi1 (by kernel_rfl) (by kernel_rfl) (by kernel_rfl) ?hQ1 (Or.inl ⟨?hw1, ?hy1⟩) (by assumption) ?_
              case hi1 => (simp only [List.getElem?_toArray, List.getElem?_cons_succ, List.getElem?_cons_zero]; rfl)
              case hQ1 => exact fun _ _ _ h => h
              case hw1 => rfl
              case hy1 => (intro w' hSw; (try dsimp only at hSw); go_simp; all_goals with_reducible rfl)
              try simp only [Act.put, List.setIfInBounds_toArray, List.set_cons_zero, List.set_cons_succ]
              refine' wpAnyH_take (i := 3) ?hi3 (by kernel_rfl) (by kernel_rfl) (by kernel_rfl) ?hQ3 (Or.inl ⟨?hw3, ?hy3⟩) (by assumption) ?_
              case hi3 => (simp only [List.getElem?_toArray, List.getElem?_cons_succ, List.getElem?_cons_zero]; rfl)
              case hQ3 => exact fun _ _ _ h => h
              case hw3 => rfl
              case hy3 => (intro w' hSw; (try dsimp only at hSw); go_simp; all_goals with_reducible rfl)
              try simp only [Act.put, List.setIfInBounds_toArray, List.set_cons_zero, List.set_cons_succ]
              refine' wpAnyH_take (i := 5) ?hi5 (by kernel_rfl) (by kernel_rfl) (by kernel_rfl) ?hQ5 (Or.inl ⟨?hw5, ?hy5⟩) (by assumption) ?_
              case hi5 => (simp only [List.getElem?_toArray, List.getElem?_cons_succ, List.getElem?_cons_zero]; rfl)
              case hQ5 => exact fun _ _ _ h => h
              case hw5 => rfl
              case hy5 => (intro w' hSw; (try dsimp only at hSw); go_simp; all_goals with_reducible rfl)
              try simp only [Act.put, List.setIfInBounds_toArray, List.set_cons_zero, List.set_cons_succ]
              refine wpAnyH_ready (rs := [2, 6]) (by kernel_rfl) (by simp) ?_
              refine AllReadyH.cons rfl (fun K hK => ?_) (AllReadyH.cons rfl (fun K hK => ?_) AllReadyH.nil)
              · go_simp
                go_at_call 44
                refine (FSi.out _).mono ?_
                rintro e wq ⟨rfl, hcq⟩
                try go_wp2_with fail
                refine hK.out _ _ (pkeep hH hcq (fun _ h => h.elim) hBO) (fun hH => ?_)
                clear hK K
                try simp only [Act.put, List.setIfInBounds_toArray, List.set_cons_zero, List.set_cons_succ]
                have hd := hd.trans hcq
                refine wpAnyH_ready (rs := [4, 6]) (by kernel_rfl) (by simp) ?_
                refine AllReadyH.cons rfl (fun K hK => ?_) (AllReadyH.cons rfl (fun K hK => ?_) AllReadyH.nil)
                · go_simp
                  go_at_call 45
                  refine (FIi.out _).mono ?_
                  rintro e wq ⟨rfl, hcq⟩
                  try go_wp2_with fail
                  refine hK.out _ _ (pkeep hH hcq (fun _ h => h.elim) hBO) (fun hH => ?_)
                  clear hK K
                  try simp only [Act.put, List.setIfInBounds_toArray, List.set_cons_zero, List.set_cons_succ]
                  have hd := hd.trans hcq
                  refine wpAnyH_ready (rs := [6]) (by kernel_rfl) (by simp) ?_
                  refine AllReadyH.cons rfl (fun K hK => ?_) AllReadyH.nil
                  obtain ⟨ba, bc, w3, hcv3, hc3, hb3⟩ := conv_made (w := wq) (s := S) hSm
                  have hbr : Rdv w3 (Old wr.heap.size) (.slice (some ba) S.size bc) (textG c) := by
                    rw [← HST.out]
                    exact hb3.sub (fun k _ hk => by unfold Old at hk ⊢; have := hd.size; omega)
                  go_simp
                  have hd := hd.trans hc3
                  refine hK.out _ _ (pkeep hH hc3 (fun _ h => h.elim) hBO) (fun hH => ?_)
                  clear hK K
                  try simp only [Act.put, List.setIfInBounds_toArray, List.set_cons_zero, List.set_cons_succ]
                  have hnq : OwnN 31 w w3 (.slice va vn vc) L := hn.never hd
                  have hy : Dat.rd w3 (fun k => Never k ∨ (Value.slice va vn vc).ownBlock = some k) [.string ⟨#[104, 97, 110, 100, 115, 116, 105, 116, 99, 104]⟩, .string (toB (subjL (i + 1) n t.data.toList)), .string (toB (idL (i + 1) n)), .slice (some ba) S.size bc] (packOne t.data.toList n (i + 1) c) := ⟨_, rfl, by show (toB handW).size ≤ _; rw [toB_size']; decide, zs, zi, hn.fresh hbr⟩
                  refine' wpAnyH_take (i := 7) ?hi7 (by kernel_rfl) (by kernel_rfl) (by kernel_rfl) ?hQ7 (Or.inl ⟨?hw7, ?hy7⟩) (by assumption) ?_
                  case hi7 => (simp only [List.getElem?_toArray, List.getElem?_cons_succ, List.getElem?_cons_zero]; rfl)
                  case hQ7 => exact fun _ _ _ h => h
                  case hw7 => rfl
                  case hy7 => (intro w' hSw; (try dsimp only at hSw); go_simp; all_goals with_reducible rfl)
                  try simp only [Act.put, List.setIfInBounds_toArray, List.set_cons_zero, List.set_cons_succ]
                  have hSX := hH
                  refine wpAnyH_ready (rs := [8]) (by kernel_rfl) (by simp) ?_
                  refine AllReadyH.cons rfl (fun K hK => ?_) AllReadyH.nil
                  go_simp
                  refine hK.out _ _ (pkeep hSX ((Chg.refl Never _).alloc _) (fun _ h => h.elim) hBO) (fun hH => ?_)
                  clear hK K
                  try simp only [Act.put, List.setIfInBounds_toArray, List.set_cons_zero, List.set_cons_succ]
                  refine wpAnyH_ready (rs := [9]) (by kernel_rfl) (by simp) ?_
                  refine AllReadyH.cons rfl (fun K hK => ?_) AllReadyH.nil
                  refine step_push (by rfl) _ _ 24 (by rfl) elemOk_mail (O := Never) (l := L) (y := packOne t.data.toList n (i + 1) c) (by rfl) (by rfl) (by simp) hnq.own hy (fun _ h => h.elim) hLl ?_
                  intro v' w5 hown5 hc5 hk5
                  refine hK.out _ _ (pkeep hSX hc5 (fun _ h => h) hBO) (fun hH => ?_)
                  clear hK K
                  try simp only [Act.put, List.setIfInBounds_toArray, List.set_cons_zero, List.set_cons_succ]
                  refine' wpAnyH_take (i := 10) ?hi10 (by kernel_rfl) (by kernel_rfl) (by kernel_rfl) ?hQ10 (Or.inl ⟨?hw10, ?hy10⟩) (by assumption) ?_
                  case hi10 => (simp only [List.getElem?_toArray, List.getElem?_cons_succ, List.getElem?_cons_zero]; rfl)
                  case hQ10 => exact fun _ _ _ h => h
                  case hw10 => rfl
                  case hy10 => (intro w' hSw; (try dsimp only at hSw); go_simp; all_goals with_reducible rfl)
                  try simp only [Act.put, List.setIfInBounds_toArray, List.set_cons_zero, List.set_cons_succ]
                  refine wpAnyH_done (by kernel_rfl) ?_ _
                  have hn5 := hnq.step1 hown5 hc5 hk5
                  obtain ⟨oa, on, oc, rfl⟩ := own_isSlice hn5.own
                  clear hown5 hc5 hk5 hnq hy hSX hd hbr hb3 hc3 hcv3
                  go_wp2_with fail
                  go_roundw
                  case rel => exact ⟨i + 1, hin, by go_num, by rw [HPT.out]; exact hn5, HS2⟩
                  case measure => simp [intOf] <;> omega
                · obtain ⟨ba, bc, w3, hcv3, hc3, hb3⟩ := conv_made (w := wq) (s := S) hSm
                  have hbr : Rdv w3 (Old wr.heap.size) (.slice (some ba) S.size bc) (textG c) := by
                    rw [← HST.out]
                    exact hb3.sub (fun k _ hk => by unfold Old at hk ⊢; have := hd.size; omega)
                  go_simp
                  have hd := hd.trans hc3
                  refine hK.out _ _ (pkeep hH hc3 (fun _ h => h.elim) hBO) (fun hH => ?_)
                  clear hK K
                  try simp only [Act.put, List.setIfInBounds_toArray, List.set_cons_zero, List.set_cons_succ]
                  refine wpAnyH_ready (rs := [4]) (by kernel_rfl) (by simp) ?_
                  refine AllReadyH.cons rfl (fun K hK => ?_) AllReadyH.nil
                  go_simp
                  go_at_call 45
                  refine (FIi.out _).mono ?_
                  rintro e wq ⟨rfl, hcq⟩
                  try go_wp2_with fail
                  refine hK.out _ _ (pkeep hH hcq (fun _ h => h.elim) hBO) (fun hH => ?_)
                  clear hK K
                  try simp only [Act.put, List.setIfInBounds_toArray, List.set_cons_zero, List.set_cons_succ]
                  have hd := hd.trans hcq
                  have hbr := hbr.never hcq
                  have hnq : OwnN 31 w wq (.slice va vn vc) L := hn.never hd
                  have hy : Dat.rd wq (fun k => Never k ∨ (Value.slice va vn vc).ownBlock = some k) [.string ⟨#[104, 97, 110, 100, 115, 116, 105, 116, 99, 104]⟩, .string (toB (subjL (i + 1) n t.data.toList)), .string (toB (idL (i + 1) n)), .slice (some ba) S.size bc] (packOne t.data.toList n (i + 1) c) := ⟨_, rfl, by show (toB handW).size ≤ _; rw [toB_size']; decide, zs, zi, hn.fresh hbr⟩
                  refine' wpAnyH_take (i := 7) ?hi7 (by kernel_rfl) (by kernel_rfl) (by kernel_rfl) ?hQ7 (Or.inl ⟨?hw7, ?hy7⟩) (by assumption) ?_
                  case hi7 => (simp only [List.getElem?_toArray, List.getElem?_cons_succ, List.getElem?_cons_zero]; rfl)
                  case hQ7 => exact fun _ _ _ h => h
                  case hw7 => rfl
                  case hy7 => (intro w' hSw; (try dsimp only at hSw); go_simp; all_goals with_reducible rfl)
                  try simp only [Act.put, List.setIfInBounds_toArray, List.set_cons_zero, List.set_cons_succ]
                  have hSX := hH
                  refine wpAnyH_ready (rs := [8]) (by kernel_rfl) (by simp) ?_
                  refine AllReadyH.cons rfl (fun K hK => ?_) AllReadyH.nil
                  go_simp
                  refine hK.out _ _ (pkeep hSX ((Chg.refl Never _).alloc _) (fun _ h => h.elim) hBO) (fun hH => ?_)
                  clear hK K
                  try simp only [Act.put, List.setIfInBounds_toArray, List.set_cons_zero, List.set_cons_succ]
                  refine wpAnyH_ready (rs := [9]) (by kernel_rfl) (by simp) ?_
                  refine AllReadyH.cons rfl (fun K hK => ?_) AllReadyH.nil
                  refine step_push (by rfl) _ _ 24 (by rfl) elemOk_mail (O := Never) (l := L) (y := packOne t.data.toList n (i + 1) c) (by rfl) (by rfl) (by simp) hnq.own hy (fun _ h => h.elim) hLl ?_
                  intro v' w5 hown5 hc5 hk5
                  refine hK.out _ _ (pkeep hSX hc5 (fun _ h => h) hBO) (fun hH => ?_)
                  clear hK K
                  try simp only [Act.put, List.setIfInBounds_toArray, List.set_cons_zero, List.set_cons_succ]
                  refine' wpAnyH_take (i := 10) ?hi10 (by kernel_rfl) (by kernel_rfl) (by kernel_rfl) ?hQ10 (Or.inl ⟨?hw10, ?hy10⟩) (by assumption) ?_
                  case hi10 => (simp only [List.getElem?_toArray, List.getElem?_cons_succ, List.getElem?_cons_zero]; rfl)
                  case hQ10 => exact fun _ _ _ h => h
                  case hw10 => rfl
                  case hy10 => (intro w' hSw; (try dsimp only at hSw); go_simp; all_goals with_reducible rfl)
                  try simp only [Act.put, List.setIfInBounds_toArray, List.set_cons_zero, List.set_cons_succ]
                  refine wpAnyH_done (by kernel_rfl) ?_ _
                  have hn5 := hnq.step1 hown5 hc5 hk5
                  obtain ⟨oa, on, oc, rfl⟩ := own_isSlice hn5.own
                  clear hown5 hc5 hk5 hnq hy hSX hd hbr hb3 hc3 hcv3
                  go_wp2_with fail
                  go_roundw
                  case rel => exact ⟨i + 1, hin, by go_num, by rw [HPT.out]; exact hn5, HS2⟩
                  case measure => simp [intOf] <;> omega
              · obtain ⟨ba, bc, w3, hcv3, hc3, hb3⟩ := conv_made (w := wB.drew) (s := S) hSm
                have hbr : Rdv w3 (Old wr.heap.size) (.slice (some ba) S.size bc) (textG c) := by
                  rw [← HST.out]
                  exact hb3.sub (fun k _ hk => by unfold Old at hk ⊢; have := hd.size; omega)
                go_simp
                have hd := hd.trans hc3
                refine hK.out _ _ (pkeep hH hc3 (fun _ h => h.elim) hBO) (fun hH => ?_)
                clear hK K
                try simp only [Act.put, List.setIfInBounds_toArray, List.set_cons_zero, List.set_cons_succ]
                refine wpAnyH_ready (rs := [2]) (by kernel_rfl) (by simp) ?_
                refine AllReadyH.cons rfl (fun K hK => ?_) AllReadyH.nil
                go_simp
                go_at_call 44
                refine (FSi.out _).mono ?_
                rintro e wq ⟨rfl, hcq⟩
                try go_wp2_with fail
                refine hK.out _ _ (pkeep hH hcq (fun _ h => h.elim) hBO) (fun hH => ?_)
                clear hK K
                try simp only [Act.put, List.setIfInBounds_toArray, List.set_cons_zero, List.set_cons_succ]
                have hd := hd.trans hcq
                have hbr := hbr.never hcq
                refine wpAnyH_ready (rs := [4]) (by kernel_rfl) (by simp) ?_
                refine AllReadyH.cons rfl (fun K hK => ?_) AllReadyH.nil
                go_simp
                go_at_call 45
                refine (FIi.out _).mono ?_
                rintro e wq ⟨rfl, hcq⟩
                try go_wp2_with fail
                refine hK.out _ _ (pkeep hH hcq (fun _ h => h.elim) hBO) (fun hH => ?_)
                clear hK K
                try simp only [Act.put, List.setIfInBounds_toArray, List.set_cons_zero, List.set_cons_succ]
                have hd := hd.trans hcq
                have hbr := hbr.never hcq
                have hnq : OwnN 31 w wq (.slice va vn vc) L := hn.never hd
                have hy : Dat.rd wq (fun k => Never k ∨ (Value.slice va vn vc).ownBlock = some k) [.string ⟨#[104, 97, 110, 100, 115, 116, 105, 116, 99, 104]⟩, .string (toB (subjL (i + 1) n t.data.toList)), .string (toB (idL (i + 1) n)), .slice (some ba) S.size bc] (packOne t.data.toList n (i + 1) c) := ⟨_, rfl, by show (toB handW).size ≤ _; rw [toB_size']; decide, zs, zi, hn.fresh hbr⟩
                refine' wpAnyH_take (i := 7) ?hi7 (by kernel_rfl) (by kernel_rfl) (by kernel_rfl) ?hQ7 (Or.inl ⟨?hw7, ?hy7⟩) (by assumption) ?_
                case hi7 => (simp only [List.getElem?_toArray, List.getElem?_cons_succ, List.getElem?_cons_zero]; rfl)
                case hQ7 => exact fun _ _ _ h => h
                case hw7 => rfl
                case hy7 => (intro w' hSw; (try dsimp only at hSw); go_simp; all_goals with_reducible rfl)
                try simp only [Act.put, List.setIfInBounds_toArray, List.set_cons_zero, List.set_cons_succ]
                have hSX := hH
                refine wpAnyH_ready (rs := [8]) (by kernel_rfl) (by simp) ?_
                refine AllReadyH.cons rfl (fun K hK => ?_) AllReadyH.nil
                go_simp
                refine hK.out _ _ (pkeep hSX ((Chg.refl Never _).alloc _) (fun _ h => h.elim) hBO) (fun hH => ?_)
                clear hK K
                try simp only [Act.put, List.setIfInBounds_toArray, List.set_cons_zero, List.set_cons_succ]
                refine wpAnyH_ready (rs := [9]) (by kernel_rfl) (by simp) ?_
                refine AllReadyH.cons rfl (fun K hK => ?_) AllReadyH.nil
                refine step_push (by rfl) _ _ 24 (by rfl) elemOk_mail (O := Never) (l := L) (y := packOne t.data.toList n (i + 1) c) (by rfl) (by rfl) (by simp) hnq.own hy (fun _ h => h.elim) hLl ?_
                intro v' w5 hown5 hc5 hk5
                refine hK.out _ _ (pkeep hSX hc5 (fun _ h => h) hBO) (fun hH => ?_)
                clear hK K
                try simp only [Act.put, List.setIfInBounds_toArray, List.set_cons_zero, List.set_cons_succ]
                refine' wpAnyH_take (i := 10) ?hi10 (by kernel_rfl) (by kernel_rfl) (by kernel_rfl) ?hQ10 (Or.inl ⟨?hw10, ?hy10⟩) (by assumption) ?_
                case hi10 => (simp only [List.getElem?_toArray, List.getElem?_cons_succ, List.getElem?_cons_zero]; rfl)
                case hQ10 => exact fun _ _ _ h => h
                case hw10 => rfl
                case hy10 => (intro w' hSw; (try dsimp only at hSw); go_simp; all_goals with_reducible rfl)
                try simp only [Act.put, List.setIfInBounds_toArray, List.set_cons_zero, List.set_cons_succ]
                refine wpAnyH_done (by kernel_rfl) ?_ _
                have hn5 := hnq.step1 hown5 hc5 hk5
                obtain ⟨oa, on, oc, rfl⟩ := own_isSlice hn5.own
                clear hown5 hc5 hk5 hnq hy hSX hd hbr hb3 hc3 hcv3
                go_wp2_with fail
                go_roundw
                case rel => exact ⟨i + 1, hin, by go_num, by rw [HPT.out]; exact hn5, HS2⟩
                case measure => simp [intOf] <;> omega
          · have HPF : packFault c = (patchFault c).2 := if_pos hz
            have HF2 : Hid (packF t.data.toList p = (patchFault c).2) := by rw [Hid, HF.out, st2 (by rw [HPF]; exact hz), HPF]
            have HR : Hid (packR t.data.toList p = []) := if_neg (by rw [HF2.out]; exact hz)
            have HZ := Lib.hid hz
            rw [errV_pos hz]
            generalize gitR c = G
            generalize (patchFault c).2 = fz at HF2 HZ ⊢
            clear HPF hz st1 st2 hcv
            go_wp2_with fail
            go_ret2
            exact ⟨_, by rw [HF2.out, errV_pos HZ.out]; try rfl, hn1.chg, by rw [HR.out]; exact rdv_nil _ _⟩
        · obtain rfl : n = i := by omega
          have hf' := hf.out
          rw [List.drop_of_length_le (by have := HN.out; omega)] at hf'
          have HF2 : Hid (packF t.data.toList p = 0) := by rw [Hid, HF.out, ← hf']; rfl
          have HR : Hid (packR t.data.toList p = packL t.data.toList p) := if_pos HF2.out
          have hnL : OwnN 31 w wr (.slice va vn vc) (packL t.data.toList p) := by
            have := hn
            rw [List.take_of_length_le (by have := HN.out; omega)] at this
            rw [HPL.out]
            exact this
          clear hf hf' hn
          go_wp2_with fail
          go_ret2
          exact ⟨_, by rw [HF2.out]; rfl, hnL.chg, by rw [HR.out]; exact hnL.own.rdv⟩
end Go.Proofs.YtjiaidchcldocaaGreatDoor
