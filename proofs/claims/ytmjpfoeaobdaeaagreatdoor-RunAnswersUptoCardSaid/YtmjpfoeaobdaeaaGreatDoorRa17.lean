/-
  PARTS: THE WALK of the document's more: one line more of a file.; THE WALK of the document's Line: old, new.; THE WALK of the document's Line: drop.; A ROW OF A BLOCK's CELLS, as a function of the place; a row of numbers that make([]int, n) has made.; THE DOCUMENT's WAY TO A SCRIPT, in plain Lean: how many lines can be kept at the most; it comes to the same script.
-/
import Derived.Test.YtmjpfoeaobdaeaaGreatDoorRa16
import Derived.Test.YtmjpfoeaobdaeaaGreatDoorRa9
import Derived.Test.YtmjpfoeaobdaeaaGreatDoorRa8
import Derived.Test.YtmjpfoeaobdaeaaGreatDoorRa7
import Derived.Test.YtmjpfoeaobdaeaaGreatDoorRa10
import Derived.Test.YtmjpfoeaobdaeaaGreatDoorRa11
import Derived.Test.YtmjpfoeaobdaeaaGreatDoorRa6
import Derived.Deep.RegionHeld3
import Derived.BigQuiet
import Derived.Test.YtmjpfoeaobdaeaaGreatDoorRa2
import Derived.Test.YtmjpfoeaobdaeaaGreatDoorRa3
set_option linter.unusedVariables false
set_option linter.unusedSimpArgs false
namespace Go.Proofs.YtmjpfoeaobdaeaaGreatDoor
open Go.RowKit

def DocMorePost (t : List File) (p x : ByteArray) (w : World) (e : Ending) (w' : World) : Prop :=
  ∃ r, e = .returned (.tuple #[r, .string (toB (toldS okW (moreFault t p x)))]) ∧ Chg Never w w' ∧ Rdv w' Never r (moreT t p x)
theorem moreFault_lines {t : List File} (hT : Tree t) {p x : ByteArray} (hp : pathFault p = 0) (hz : linesFault (linesIn t p ++ [x]) ≠ 0) : moreFault t p x = linesFault (linesIn t p ++ [x]) := by
  unfold moreFault putFault moreFile
  rw [at_tree hT, if_pos hp, if_neg hz]
theorem moreFault_full {t : List File} (hT : Tree t) {p x : ByteArray} (hp : pathFault p = 0) (hz : linesFault (linesIn t p ++ [x]) = 0) (hk : placeI t p < 0) (hl : 8 ≤ t.length) : moreFault t p x = 3 := by
  unfold moreFault
  refine putFault_full ⟨?_, hk, hl⟩
  unfold put2Fault moreFile
  rw [at_tree hT, if_pos hp, hz]
theorem moreFault_none {t : List File} (hT : Tree t) {p x : ByteArray} (hp : pathFault p = 0) (hz : linesFault (linesIn t p ++ [x]) = 0) (hn : ¬ (placeI t p < 0 ∧ 8 ≤ t.length)) : moreFault t p x = 0 := by
  unfold moreFault
  rw [putFault_else (fun h => hn h.2)]
  unfold put2Fault moreFile
  rw [at_tree hT, if_pos hp, hz]
theorem moreT_same {t : List File} {p x : ByteArray} (h : moreFault t p x ≠ 0) : moreT t p x = t := if_neg h
theorem moreT_put {t : List File} (hT : Tree t) {p x : ByteArray} (h : moreFault t p x = 0) : putLoop ⟨p, linesIn t p ++ [x]⟩ false t = moreT t p x := by
  rw [putLoop_sorted _ _ hT.2.2]
  exact (if_pos h).symm
set_option maxHeartbeats 2000000 in
set_option maxRecDepth 100000 in
theorem docmore_any (t : List File) (p x : ByteArray) (vt : Value) (w : World) (hT : Tree t) (h : Rdv w Never vt t) (hp : p.size ≤ maxLen) (hx : x.size ≤ maxLen) :
    Calls Tryz.prog 24 #[vt, .string p, .string x] w (DocMorePost t p x w) := by
  obtain ⟨a, cap, rfl, h1, h2, h3⟩ := rdv_slice h
  have hl8 : t.length ≤ 1000000 := by have := hT.1; omega
  by_cases zp : pathFault p = 0
  · have ZP := Lib.hid zp
    have hln := linesIn_len hT p
    go_enter Tryz.func24, Tryz.ntmps24
    go_wp2_with fail
    refine (refPath_any p _).mono ?_
    rintro e w0 ⟨rfl, hc0⟩
    rw [zp]
    clear zp
    have h0 := h.never hc0
    go_wp2_with fail
    refine (refPlace_any t p _ _ h0).mono ?_
    rintro e w1 ⟨rfl, hc1⟩
    have hw := hc0.trans hc1
    clear hc0 hc1 h0
    rcases placeI_look t p with ⟨k1, k2⟩ | ⟨i, f, k1, k2, k3⟩
    · have HK := Lib.hid k1
      have HL : Hid (linesIn t p = []) := by unfold Hid linesIn; rw [k2]; rfl
      rw [k1]
      clear k1 k2 h3
      have hown : Own 9 w1 (Old w.heap.size) (.slice none 0 0) ([] : List ByteArray) := own_nil _ _ _
      obtain ⟨L, hL⟩ : ∃ L : List ByteArray, L = [] := ⟨_, rfl⟩
      rw [← hL] at hown HL
      have hL60 : L.length ≤ 60 := by rw [hL]; decide
      clear hL
      go_wp2_with (at_builtin; refine wpList_push (by rfl) _ _ 25 (by rfl) elemOk_str (O := Old w.heap.size) (l := L) (y := x) (by rfl) (by rfl) (by rfl) hown ⟨rfl, hx⟩ (old_lt hw) (by omega) ?_; intro v' w2 hown2 hc2 _; have hw2 := own_step hw hown hc2; clear hc2 hown hw; obtain ⟨wa, wn, wc, rfl⟩ := own_isSlice hown2)
      have hf2 : Rdv w2 Never (.slice wa wn wc) (L ++ [x]) := hown2.rdv.sub (fun _ _ h => h.elim)
      clear hown2
      go_wp2_with fail
      refine (refLines_any (L ++ [x]) _ _ hf2).mono ?_
      rintro e w3 ⟨rfl, hc3⟩
      have hw3 := hw2.trans hc3
      have hf3 := hf2.never hc3
      clear hf2 hc3 hw2
      by_cases z : linesFault (L ++ [x]) = 0
      · rw [z]
        by_cases g : (-1 : Int) < 0 ∧ 8 ≤ t.length
        · have HMF : Hid (moreFault t p x = 3) := moreFault_full hT ZP.out (by rw [HL.out]; exact z) (by rw [HK.out]; omega) g.2
          have HNZ : Hid ((3 : Int) ≠ 0) := by unfold Hid; decide
          have HMT : Hid (moreT t p x = t) := moreT_same (by rw [HMF.out]; decide)
          have g2 := g.2
          have t8 : decide ((8 : Int) ≤ (t.length : Int)) = true := decide_eq_true (by omega)
          clear z hf3
          go_wp2_with fail
          refine (reftold_any [] (by simp) 3 _).mono ?_
          rintro e w4 ⟨rfl, rfl⟩
          go_wp2_with fail
          go_ret2
          exact ⟨_, by rw [HMF.out, ← told_any_text HNZ.out]; rfl, hw3, by rw [HMT.out]; exact h.never hw3⟩
        · have HMF : Hid (moreFault t p x = 0) := moreFault_none hT ZP.out (by rw [HL.out]; exact z) (fun q => g ⟨by have := q.1; rw [HK.out] at this; omega, q.2⟩)
          have hPut := refPut_any t ⟨p, L ++ [x]⟩ _ _ w3 (h.never hw3) hf3 hp hl8
          rw [← HL.out, moreT_put hT HMF.out] at hPut
          have HPUT := Lib.hid hPut
          have t8 : decide ((8 : Int) ≤ (t.length : Int)) = false := decide_eq_false (fun q => g ⟨by decide, by omega⟩)
          clear z hf3 hPut
          go_wp2_with fail
          refine HPUT.out.mono ?_
          rintro e w4 ⟨r, rfl, hc4, hr⟩
          obtain ⟨ra, rc, rfl, _, _, _⟩ := rdv_slice hr
          go_wp2_with fail
          go_ret2
          exact ⟨_, by rw [HMF.out]; rfl, hw3.trans hc4, hr⟩
      · have HMF : Hid (moreFault t p x = linesFault (L ++ [x])) := by rw [Hid, moreFault_lines hT ZP.out (by rw [HL.out]; exact z), HL.out]
        have HNZ := Lib.hid z
        have HMT : Hid (moreT t p x = t) := moreT_same (by rw [HMF.out]; exact z)
        have z1 : (linesFault (L ++ [x]) == 0) = false := beq_eq_false_iff_ne.2 z
        generalize linesFault (L ++ [x]) = E at z1 HMF HNZ ⊢
        clear z hf3
        go_wp2_with fail
        refine (reftold_any [] (by simp) E _).mono ?_
        rintro e w4 ⟨rfl, rfl⟩
        go_wp2_with fail
        go_ret2
        exact ⟨_, by rw [HMF.out, ← told_any_text HNZ.out]; rfl, hw3, by rw [HMT.out]; exact h.never hw3⟩
    · have HK := Lib.hid k1
      have HL : Hid (linesIn t p = f.lines) := by unfold Hid linesIn; rw [k3]; rfl
      rw [k1]
      rw [show linesIn t p = f.lines from HL.out] at hln
      obtain ⟨b, off, lv, rfl, _, _, c0, c1, hps, hlv⟩ := elems_file h3 k2
      have c0 := hw.cellNever c0
      have c1 := hw.cellNever c1
      have hlv := hlv.never hw
      obtain ⟨la, lcap, rfl, _, _, _⟩ := rdv_slice hlv
      have hi8 : i < t.length := (List.getElem?_eq_some_iff.1 k2).1
      clear k1 k2 k3 h3
      have hL60 := hln
      have hw1 := hw
      clear hw hln
      go_wp2_with (first | (at_builtin; refine wpList_many (by rfl) _ _ 25 (by rfl) elemOk_str (O := Old w.heap.size) (l := []) (m := f.lines) (by rfl) (by rfl) (own_nil _ _ _) hlv (rd_str_any _ _ _) (old_lt hw1) (by simp; omega) ?_; intro v1 w5 hown hcB; have hw := own_step (l := ([] : List ByteArray)) hw1 (own_nil 9 _ _) hcB; rw [List.nil_append] at hown; clear c0 c1 hlv hw1 hcB; generalize f.lines = L at hown HL hL60; obtain ⟨ra, rn, rc, rfl⟩ := own_isSlice hown) | (at_builtin; refine wpList_push (by rfl) _ _ 25 (by rfl) elemOk_str (O := Old w.heap.size) (l := L) (y := x) (by rfl) (by rfl) (by rfl) hown ⟨rfl, hx⟩ (old_lt hw) (by omega) ?_; intro v' w2 hown2 hc2 _; have hw2 := own_step hw hown hc2; clear hc2 hown hw; obtain ⟨wa, wn, wc, rfl⟩ := own_isSlice hown2))
      have hf2 : Rdv w2 Never (.slice wa wn wc) (L ++ [x]) := hown2.rdv.sub (fun _ _ h => h.elim)
      clear hown2
      go_wp2_with fail
      refine (refLines_any (L ++ [x]) _ _ hf2).mono ?_
      rintro e w3 ⟨rfl, hc3⟩
      have hw3 := hw2.trans hc3
      have hf3 := hf2.never hc3
      clear hf2 hc3 hw2
      by_cases z : linesFault (L ++ [x]) = 0
      · rw [z]
        by_cases g : (i : Int) < 0 ∧ 8 ≤ t.length
        · have HMF : Hid (moreFault t p x = 3) := moreFault_full hT ZP.out (by rw [HL.out]; exact z) (by rw [HK.out]; omega) g.2
          have HNZ : Hid ((3 : Int) ≠ 0) := by unfold Hid; decide
          have HMT : Hid (moreT t p x = t) := moreT_same (by rw [HMF.out]; decide)
          have g2 := g.2
          have t8 : decide ((8 : Int) ≤ (t.length : Int)) = true := decide_eq_true (by omega)
          clear z hf3
          go_wp2_with fail
          refine (reftold_any [] (by simp) 3 _).mono ?_
          rintro e w4 ⟨rfl, rfl⟩
          go_wp2_with fail
          go_ret2
          exact ⟨_, by rw [HMF.out, ← told_any_text HNZ.out]; rfl, hw3, by rw [HMT.out]; exact h.never hw3⟩
        · have HMF : Hid (moreFault t p x = 0) := moreFault_none hT ZP.out (by rw [HL.out]; exact z) (fun q => g ⟨by have := q.1; rw [HK.out] at this; omega, q.2⟩)
          have hPut := refPut_any t ⟨p, L ++ [x]⟩ _ _ w3 (h.never hw3) hf3 hp hl8
          rw [← HL.out, moreT_put hT HMF.out] at hPut
          have HPUT := Lib.hid hPut
          have hi0 : decide ((i : Int) < 0) = false := decide_eq_false (by omega)
          clear z hf3 hPut
          go_wp2_with fail
          refine HPUT.out.mono ?_
          rintro e w4 ⟨r, rfl, hc4, hr⟩
          obtain ⟨ra, rc, rfl, _, _, _⟩ := rdv_slice hr
          go_wp2_with fail
          go_ret2
          exact ⟨_, by rw [HMF.out]; rfl, hw3.trans hc4, hr⟩
      · have HMF : Hid (moreFault t p x = linesFault (L ++ [x])) := by rw [Hid, moreFault_lines hT ZP.out (by rw [HL.out]; exact z), HL.out]
        have HNZ := Lib.hid z
        have HMT : Hid (moreT t p x = t) := moreT_same (by rw [HMF.out]; exact z)
        have z1 : (linesFault (L ++ [x]) == 0) = false := beq_eq_false_iff_ne.2 z
        generalize linesFault (L ++ [x]) = E at z1 HMF HNZ ⊢
        clear z hf3
        go_wp2_with fail
        refine (reftold_any [] (by simp) E _).mono ?_
        rintro e w4 ⟨rfl, rfl⟩
        go_wp2_with fail
        go_ret2
        exact ⟨_, by rw [HMF.out, ← told_any_text HNZ.out]; rfl, hw3, by rw [HMT.out]; exact h.never hw3⟩
  · have HMF : Hid (moreFault t p x = pathFault p) := moreFault_bad hT zp
    have HNZ := Lib.hid zp
    have HMT : Hid (moreT t p x = t) := moreT_same (by rw [HMF.out]; exact zp)
    have z1 : (pathFault p == 0) = false := beq_eq_false_iff_ne.2 zp
    go_enter Tryz.func24, Tryz.ntmps24
    go_wp2_with fail
    refine (refPath_any p _).mono ?_
    rintro e w0 ⟨rfl, hc0⟩
    generalize pathFault p = E at z1 HMF HNZ ⊢
    clear zp
    go_wp2_with fail
    refine (reftold_any [] (by simp) E _).mono ?_
    rintro e w4 ⟨rfl, rfl⟩
    go_wp2_with fail
    go_ret2
    exact ⟨_, by rw [HMF.out, ← told_any_text HNZ.out]; rfl, hc0, by rw [HMT.out]; exact h.never hc0⟩
end Go.Proofs.YtmjpfoeaobdaeaaGreatDoor
namespace Go.Proofs.YtmjpfoeaobdaeaaGreatDoor
open Go.RowKit

theorem text_drop {s a c : List UInt8} {q : List (List UInt8)} (hW : parts 32 s = a :: c :: q) (hq : q ≠ []) : a.length + c.length + 2 ≤ s.length := by
  have h := words_rest hW hq
  generalize s.drop (a.length + c.length + 2) = r at h
  rw [h]
  simp
  omega
theorem text_cut (s : List UInt8) (k : Nat) : (toB s).extract k (toB s).size = toB (s.drop k) := by
  have e : ((toB s).extract k (toB s).size).data.toList = s.drop k := by
    rw [Lib.extract_data, toB_data, toB_sz]
    exact List.take_of_length_le (by rw [List.length_drop]; exact Nat.le_refl _)
  rw [← e, toB_of]
set_option maxHeartbeats 4000000 in
set_option maxRecDepth 100000 in
theorem doc_old (b : Nat) (m : Ses) (s : List UInt8) (w : World) (hd : DocAt w b m) (hok : SesOk m) (hs : s.length ≤ 100000) {c : List UInt8} {q : List (List UInt8)} (hq : q ≠ []) (hW : parts 32 s = oldW :: c :: q) :
    Calls Tryz.prog 15 #[.pointer (some ⟨b, 0, none⟩), .string (toB s)] w (DocPost b ((⟨moreT m.old (toB c) (toB (s.drop (3 + c.length + 2))), m.new⟩ : Ses), toldS okW (moreFault m.old (toB c) (toB (s.drop (3 + c.length + 2))))) w) := by
  obtain ⟨P, hP⟩ : ∃ P, toB c = P := ⟨_, rfl⟩
  rw [hP]
  have hle := text_drop hW hq
  have hq3 : 1 ≤ q.length := List.length_pos_iff.2 hq
  have HT := Lib.hid (text_cut s (3 + c.length + 2))
  have hTs : (toB (s.drop (3 + c.length + 2))).size ≤ maxLen := by rw [toB_sz, List.length_drop]; unfold maxLen; omega
  have hPz : P.size = c.length := by rw [← hP, toB_sz]
  have hXz : (toB oldW).size = 3 := by rw [toB_sz]; rfl
  have hSz : (toB s).size = s.length := toB_sz s
  have hns := hd.nostr
  obtain ⟨vo, vn, hb, ho, hn⟩ := hd
  obtain ⟨oa, oc, rfl, _, _, _⟩ := rdv_slice ho
  obtain ⟨na, nc, rfl, _, _, _⟩ := rdv_slice hn
  have HW := Lib.hid hW
  have o1 : ((toB oldW).toList == [111, 108, 100]) = true := by rw [wtest]; decide
  have o2 : ((toB oldW).toList == [110, 101, 119]) = false := by rw [wtest]; decide
  clear hW
  go_enter Tryz.func15, Tryz.ntmps15
  go_wp2_with fail
  refine (words_any (toB s) w (by rw [toB_sz]; omega)).mono ?_
  rintro e w1 ⟨ws, rfl, hc1, hws⟩
  rw [toB_data, HW.out] at hws
  have hb1 := hb.keep hc1 (fun x => x)
  have ho1 := ho.never hc1
  have hn1 := hn.never hc1
  obtain ⟨c0, c1⟩ := hb1.cell
  clear hb ho hn
  obtain ⟨wa, wc, rfl, wz1, wz2, wz3⟩ := rdv_slice hws
  obtain ⟨wb, woff, rfl, hwo, _, k0, _⟩ := elems_str wz3 (i := 0) rfl
  obtain ⟨wb', woff', hwe, _, _, k1, hps⟩ := elems_str wz3 (i := 1) rfl
  injection hwe with hwe
  injection hwe with hwe1 hwe2 _
  subst hwe1 hwe2
  clear wz3 hws
  rw [hP] at k1 hps
  have hbw : b ≠ wb := fun e => (DocAt.nostr (m := m) ⟨_, _, hb1, ho1, hn1⟩) _ P (by rw [e]; exact k1)
  have hlen : ((oldW :: c :: q).map toB).length = q.length + 2 := by simp
  rw [hlen] at wz1 ⊢
  obtain ⟨n, hn2⟩ : ∃ n, q.length + 2 = n := ⟨_, rfl⟩
  rw [hn2] at wz1 ⊢
  unfold maxLen at wz2
  simp only [Nat.add_zero] at k0
  have tn : decide ((3 : Int) ≤ (n : Int)) = true := decide_eq_true (by omega)
  have hn3 : (1 : Int) < (n : Int) := by omega
  have hn4 : (0 : Int) < (n : Int) := by omega
  obtain ⟨k2, hk2⟩ : ∃ k2, 3 + c.length = k2 := ⟨_, rfl⟩
  obtain ⟨k3, hk3⟩ : ∃ k3, 3 + c.length + 2 = k3 := ⟨_, rfl⟩
  have w2 : IntKind.i64.wrap (((toB oldW).size : Int) + (P.size : Int)) = (k2 : Int) := by rw [show ((toB oldW).size : Int) + (P.size : Int) = (k2 : Int) by omega]; exact IntWalk.i64_in _ (by omega)
  have w3 : IntKind.i64.wrap ((k2 : Int) + 2) = (k3 : Int) := by rw [show (k2 : Int) + 2 = (k3 : Int) by omega]; exact IntWalk.i64_in _ (by omega)
  have l3 : (k3 : Int) ≤ ((toB s).size : Int) := by rw [hSz]; have : oldW.length = 3 := rfl; omega
  have HK3 := Lib.hid hk3
  rw [hk3] at HT hTs ⊢
  generalize toB oldW = X at k0 o1 o2 w2
  clear hle hq3 hn2 hk2 hk3 hPz hXz hSz hlen hP HW
  go_wp2_with fail
  go_quiet (fail)
  go_wp2_with fail
  rw [HT.out]
  generalize hw2 : w1.drewN _ = w2
  have hcq : Chg Never w1 w2 := by rw [← hw2]; exact (Chg.refl Never w1).drewN _
  clear hw2
  have hb2 := hb1.keep hcq (fun x => x)
  have ho2 := ho1.never hcq
  have hn2 := hn1.never hcq
  have k1 := hcq.cellNever k1
  have hw := hc1.trans hcq
  obtain ⟨d0, d1⟩ := hb2.cell
  have hod := ho2.never ((Chg.refl Never w2).drew)
  have hnd := hn2.never ((Chg.refl Never w2).drew)
  clear c0 c1 hb1 ho1 hn1 hc1 hcq k0
  refine wp_region_held_drew (S := fun w' => w'.cell? ⟨wb, woff + 1, none⟩ = some (.string P)) (by kernel_rfl) k1 (fun hH => ?_)
  refine' tk 0 ?_
  refine' tk 1 ?_
  refine' tk 2 ?_
  refine' tk 3 ?_
  refine' tk 5 ?_
  refine' tk 6 ?_
  refine' tk 7 ?_
  refine' tk 8 ?_
  refine wpAnyH_ready (rs := [4]) (by kernel_rfl) (by simp) ?_
  refine AllReadyH.cons rfl (fun K hK => ?_) AllReadyH.nil
  go_simp
  refine hK.out _ _ hH (fun hH2 => ?_)
  clear hK K hH
  try simp only [Act.put, List.setIfInBounds_toArray, List.set_cons_zero, List.set_cons_succ]
  refine wpAnyH_ready (rs := [9]) (by kernel_rfl) (by simp) ?_
  refine AllReadyH.cons rfl (fun K hK => ?_) AllReadyH.nil
  go_simp
  (go_at_call 24; refine (docmore_any m.old P (toB (s.drop k3)) _ _ hok.1 hod hps hTs).mono ?_; rintro e w4 ⟨r, rfl, hc4, hr4⟩; have hS4 := hc4.cellNever hH2; obtain ⟨ra, rc, rfl, _, _, _⟩ := rdv_slice hr4; have hb4 := hb2.keep (((Chg.refl Never w2).drew).trans hc4) (fun x => x); obtain ⟨l0, l1⟩ := hb4.cell; have f4 := hb4.free 0; clear hH2)
  try go_wp2_with fail
  refine hK.out _ _ ?_ (fun hH => ?_)
  · assumption
  clear hK K
  try simp only [Act.put, List.setIfInBounds_toArray, List.set_cons_zero, List.set_cons_succ]
  refine' tk 10 ?_
  refine' tk 11 ?_
  refine' tk 12 ?_
  refine' tk 13 ?_
  refine' tk 14 ?_
  refine wpAnyH_ready (rs := [15]) (by kernel_rfl) (by simp) ?_
  refine AllReadyH.cons rfl (fun K hK => ?_) AllReadyH.nil
  go_simp
  refine hK.out _ _ ((World.cell?_setCell_far _ _ _ _ hbw).trans hS4) (fun hH2 => ?_)
  clear hK K
  try simp only [Act.put, List.setIfInBounds_toArray, List.set_cons_zero, List.set_cons_succ]
  refine' tk 16 ?_
  refine wpAnyH_done (by kernel_rfl) ?_ _
  have hd4 : DocAt w4 b m := ⟨_, _, hb4, hod.never hc4, hnd.never hc4⟩
  have hA := doc_set0 hd4 hr4
  have hcs := set_chg (b := b) (i := 0) (u := .slice ra (moreT m.old P (toB (s.drop k3))).length rc) ((hw.drew).trans hc4)
  generalize (moreT m.old P (toB (s.drop k3))).length = nn at hA hcs ⊢
  clear hH2 hS4 hb4 l0 l1 f4 hod hnd d0 d1 hb2 ho2 hn2 hr4
  go_wp2_with fail
  go_ret
  exact ⟨hcs, by rw [HK3.out]; exact hA, by rw [HK3.out]; rfl⟩
set_option maxHeartbeats 4000000 in
set_option maxRecDepth 100000 in
theorem doc_new (b : Nat) (m : Ses) (s : List UInt8) (w : World) (hd : DocAt w b m) (hok : SesOk m) (hs : s.length ≤ 100000) {c : List UInt8} {q : List (List UInt8)} (hq : q ≠ []) (hW : parts 32 s = newW :: c :: q) :
    Calls Tryz.prog 15 #[.pointer (some ⟨b, 0, none⟩), .string (toB s)] w (DocPost b ((⟨m.old, moreT m.new (toB c) (toB (s.drop (3 + c.length + 2)))⟩ : Ses), toldS okW (moreFault m.new (toB c) (toB (s.drop (3 + c.length + 2))))) w) := by
  obtain ⟨P, hP⟩ : ∃ P, toB c = P := ⟨_, rfl⟩
  rw [hP]
  have hle := text_drop hW hq
  have hq3 : 1 ≤ q.length := List.length_pos_iff.2 hq
  have HT := Lib.hid (text_cut s (3 + c.length + 2))
  have hTs : (toB (s.drop (3 + c.length + 2))).size ≤ maxLen := by rw [toB_sz, List.length_drop]; unfold maxLen; omega
  have hPz : P.size = c.length := by rw [← hP, toB_sz]
  have hXz : (toB newW).size = 3 := by rw [toB_sz]; rfl
  have hSz : (toB s).size = s.length := toB_sz s
  have hns := hd.nostr
  obtain ⟨vo, vn, hb, ho, hn⟩ := hd
  obtain ⟨oa, oc, rfl, _, _, _⟩ := rdv_slice ho
  obtain ⟨na, nc, rfl, _, _, _⟩ := rdv_slice hn
  have HW := Lib.hid hW
  have o1 : ((toB newW).toList == [111, 108, 100]) = false := by rw [wtest]; decide
  have o2 : ((toB newW).toList == [110, 101, 119]) = true := by rw [wtest]; decide
  clear hW
  go_enter Tryz.func15, Tryz.ntmps15
  go_wp2_with fail
  refine (words_any (toB s) w (by rw [toB_sz]; omega)).mono ?_
  rintro e w1 ⟨ws, rfl, hc1, hws⟩
  rw [toB_data, HW.out] at hws
  have hb1 := hb.keep hc1 (fun x => x)
  have ho1 := ho.never hc1
  have hn1 := hn.never hc1
  obtain ⟨c0, c1⟩ := hb1.cell
  clear hb ho hn
  obtain ⟨wa, wc, rfl, wz1, wz2, wz3⟩ := rdv_slice hws
  obtain ⟨wb, woff, rfl, hwo, _, k0, _⟩ := elems_str wz3 (i := 0) rfl
  obtain ⟨wb', woff', hwe, _, _, k1, hps⟩ := elems_str wz3 (i := 1) rfl
  injection hwe with hwe
  injection hwe with hwe1 hwe2 _
  subst hwe1 hwe2
  clear wz3 hws
  rw [hP] at k1 hps
  have hbw : b ≠ wb := fun e => (DocAt.nostr (m := m) ⟨_, _, hb1, ho1, hn1⟩) _ P (by rw [e]; exact k1)
  have hlen : ((newW :: c :: q).map toB).length = q.length + 2 := by simp
  rw [hlen] at wz1 ⊢
  obtain ⟨n, hn2⟩ : ∃ n, q.length + 2 = n := ⟨_, rfl⟩
  rw [hn2] at wz1 ⊢
  unfold maxLen at wz2
  simp only [Nat.add_zero] at k0
  have tn : decide ((3 : Int) ≤ (n : Int)) = true := decide_eq_true (by omega)
  have hn3 : (1 : Int) < (n : Int) := by omega
  have hn4 : (0 : Int) < (n : Int) := by omega
  obtain ⟨k2, hk2⟩ : ∃ k2, 3 + c.length = k2 := ⟨_, rfl⟩
  obtain ⟨k3, hk3⟩ : ∃ k3, 3 + c.length + 2 = k3 := ⟨_, rfl⟩
  have w2 : IntKind.i64.wrap (((toB newW).size : Int) + (P.size : Int)) = (k2 : Int) := by rw [show ((toB newW).size : Int) + (P.size : Int) = (k2 : Int) by omega]; exact IntWalk.i64_in _ (by omega)
  have w3 : IntKind.i64.wrap ((k2 : Int) + 2) = (k3 : Int) := by rw [show (k2 : Int) + 2 = (k3 : Int) by omega]; exact IntWalk.i64_in _ (by omega)
  have l3 : (k3 : Int) ≤ ((toB s).size : Int) := by rw [hSz]; have : newW.length = 3 := rfl; omega
  have HK3 := Lib.hid hk3
  rw [hk3] at HT hTs ⊢
  generalize toB newW = X at k0 o1 o2 w2
  clear hle hq3 hn2 hk2 hk3 hPz hXz hSz hlen hP HW
  go_wp2_with fail
  go_quiet (fail)
  go_wp2_with fail
  rw [HT.out]
  generalize hw2 : w1.drewN _ = w2
  have hcq : Chg Never w1 w2 := by rw [← hw2]; exact (Chg.refl Never w1).drewN _
  clear hw2
  have hb2 := hb1.keep hcq (fun x => x)
  have ho2 := ho1.never hcq
  have hn2 := hn1.never hcq
  have k1 := hcq.cellNever k1
  have hw := hc1.trans hcq
  obtain ⟨d0, d1⟩ := hb2.cell
  have hod := ho2.never ((Chg.refl Never w2).drew)
  have hnd := hn2.never ((Chg.refl Never w2).drew)
  clear c0 c1 hb1 ho1 hn1 hc1 hcq k0
  refine wp_region_held_drew (S := fun w' => w'.cell? ⟨wb, woff + 1, none⟩ = some (.string P)) (by kernel_rfl) k1 (fun hH => ?_)
  refine' tk 0 ?_
  refine' tk 1 ?_
  refine' tk 2 ?_
  refine' tk 3 ?_
  refine' tk 5 ?_
  refine' tk 6 ?_
  refine' tk 7 ?_
  refine' tk 8 ?_
  refine wpAnyH_ready (rs := [4]) (by kernel_rfl) (by simp) ?_
  refine AllReadyH.cons rfl (fun K hK => ?_) AllReadyH.nil
  go_simp
  refine hK.out _ _ hH (fun hH2 => ?_)
  clear hK K hH
  try simp only [Act.put, List.setIfInBounds_toArray, List.set_cons_zero, List.set_cons_succ]
  refine wpAnyH_ready (rs := [9]) (by kernel_rfl) (by simp) ?_
  refine AllReadyH.cons rfl (fun K hK => ?_) AllReadyH.nil
  go_simp
  (go_at_call 24; refine (docmore_any m.new P (toB (s.drop k3)) _ _ hok.2 hnd hps hTs).mono ?_; rintro e w4 ⟨r, rfl, hc4, hr4⟩; have hS4 := hc4.cellNever hH2; obtain ⟨ra, rc, rfl, _, _, _⟩ := rdv_slice hr4; have hb4 := hb2.keep (((Chg.refl Never w2).drew).trans hc4) (fun x => x); obtain ⟨l0, l1⟩ := hb4.cell; have f4 := hb4.free 1; clear hH2)
  try go_wp2_with fail
  refine hK.out _ _ ?_ (fun hH => ?_)
  · assumption
  clear hK K
  try simp only [Act.put, List.setIfInBounds_toArray, List.set_cons_zero, List.set_cons_succ]
  refine' tk 10 ?_
  refine' tk 11 ?_
  refine' tk 12 ?_
  refine' tk 13 ?_
  refine' tk 14 ?_
  refine wpAnyH_ready (rs := [15]) (by kernel_rfl) (by simp) ?_
  refine AllReadyH.cons rfl (fun K hK => ?_) AllReadyH.nil
  go_simp
  refine hK.out _ _ ((World.cell?_setCell_far _ _ _ _ hbw).trans hS4) (fun hH2 => ?_)
  clear hK K
  try simp only [Act.put, List.setIfInBounds_toArray, List.set_cons_zero, List.set_cons_succ]
  refine' tk 16 ?_
  refine wpAnyH_done (by kernel_rfl) ?_ _
  have hd4 : DocAt w4 b m := ⟨_, _, hb4, hod.never hc4, hnd.never hc4⟩
  have hA := doc_set1 hd4 hr4
  have hcs := set_chg (b := b) (i := 1) (u := .slice ra (moreT m.new P (toB (s.drop k3))).length rc) ((hw.drew).trans hc4)
  generalize (moreT m.new P (toB (s.drop k3))).length = nn at hA hcs ⊢
  clear hH2 hS4 hb4 l0 l1 f4 hod hnd d0 d1 hb2 ho2 hn2 hr4
  go_wp2_with fail
  go_ret
  exact ⟨hcs, by rw [HK3.out]; exact hA, by rw [HK3.out]; rfl⟩
end Go.Proofs.YtmjpfoeaobdaeaaGreatDoor
namespace Go.Proofs.YtmjpfoeaobdaeaaGreatDoor
open Go.RowKit

theorem drop_path {t : List File} (hT : Tree t) {p : ByteArray} (h : pathFault p ≠ 0) : getFault t p = pathFault p ∧ dropT t p = t := by
  have e : getFault t p = pathFault p := by
    unfold getFault
    rw [at_tree hT, if_neg h]
  exact ⟨e, if_neg (by rw [e]; exact h)⟩
theorem drop_none {t : List File} (hT : Tree t) {p : ByteArray} (h : pathFault p = 0) (hk : placeI t p < 0) : getFault t p = 4 ∧ dropT t p = t := by
  have e : getFault t p = 4 := getFault_none ⟨by rw [at_tree hT]; exact h, hk⟩
  exact ⟨e, if_neg (by rw [e]; decide)⟩
theorem drop_at {t : List File} (hT : Tree t) {p : ByteArray} (h : pathFault p = 0) {i : Nat} (hk : placeI t p = i) : getFault t p = 0 ∧ dropT t p = dropAt t i := by
  have e : getFault t p = 0 := by
    rw [getFault_else (fun q => by have := q.2; rw [hk] at this; omega), at_tree hT]; exact h
  refine ⟨e, ?_⟩
  unfold dropT
  rw [if_pos e]
  have hi : isAt t p = true := by
    cases hi : isAt t p with
    | true => rfl
    | false => rw [placeI_not hT.2.2 hi] at hk; omega
  have := placeI_is hT.2.2 hi
  rw [hk] at this
  congr 1
  omega
set_option maxHeartbeats 4000000 in
set_option maxRecDepth 100000 in
theorem doc_drop (b : Nat) (m : Ses) (s p : List UInt8) (w : World) (hd : DocAt w b m) (hok : SesOk m) (hs : s.length ≤ 100000) (hW : parts 32 s = [dropW, p]) :
    Calls Tryz.prog 15 #[.pointer (some ⟨b, 0, none⟩), .string (toB s)] w (DocPost b (⟨m.old, dropT m.new (toB p)⟩, toldS okW (getFault m.new (toB p))) w) := by
  obtain ⟨P, hP⟩ : ∃ P, toB p = P := ⟨_, rfl⟩
  rw [hP]
  have hns := hd.nostr
  obtain ⟨vo, vn, hb, ho, hn⟩ := hd
  obtain ⟨oa, oc, rfl, _, _, _⟩ := rdv_slice ho
  obtain ⟨na, nc, rfl, _, _, _⟩ := rdv_slice hn
  have HW := Lib.hid hW
  have t1 : ((toB dropW).toList == [100, 114, 111, 112]) = true := by rw [wtest]; decide
  have t2 : ((toB dropW).toList == [100, 105, 102, 102]) = false := by rw [wtest]; decide
  have t3 : ((toB dropW).toList == [102, 97, 114]) = false := by rw [wtest]; decide
  have t4 : ((toB dropW).toList == [103, 111]) = false := by rw [wtest]; decide
  have s1 : ((toB s).toList == [98, 97, 99, 107]) = false := wfalse (parts_ne1 HW.out (by decide))
  have s2 : ((toB s).toList == [115, 97, 109, 101]) = false := wfalse (parts_ne1 HW.out (by decide))
  clear hW
  go_enter Tryz.func15, Tryz.ntmps15
  go_wp2_with fail
  refine (words_any (toB s) w (by rw [toB_sz]; omega)).mono ?_
  rintro e w1 ⟨ws, rfl, hc1, hws⟩
  rw [toB_data, HW.out] at hws
  have hb1 := hb.keep hc1 (fun x => x)
  have ho1 := ho.never hc1
  have hn1 := hn.never hc1
  obtain ⟨c0, c1⟩ := hb1.cell
  clear hb ho hn
  obtain ⟨wa, wc, rfl, _, wz2, wz3⟩ := rdv_slice hws
  obtain ⟨wb, woff, rfl, _, _, k0, _⟩ := elems_str wz3 (i := 0) rfl
  obtain ⟨wb', woff', hwe, _, _, k1, hps⟩ := elems_str wz3 (i := 1) rfl
  injection hwe with hwe
  injection hwe with hwe1 hwe2 _
  subst hwe1 hwe2
  clear wz3 hws
  simp only [List.map_cons, List.map_nil, List.length_cons, List.length_nil, Nat.add_zero, Nat.zero_add, Nat.reduceAdd] at k0 k1 ⊢
  have ht8 := hok.2.1
  generalize toB dropW = X at k0 t1 t2 t3 t4
  rw [hP] at k1 hps
  clear hP
  go_wp2_with fail
  refine (refPath_any P _).mono ?_
  rintro e w2 ⟨rfl, hc2⟩
  have hw2 := hc1.trans hc2
  have hb2 := hb1.keep hc2 (fun x => x)
  have ho2 := ho1.never hc2
  have hn2 := hn1.never hc2
  obtain ⟨d0, d1⟩ := hb2.cell
  have k1 := hc2.cellNever k1
  have hnd := hn2.never ((Chg.refl Never w2).drew)
  clear c0 c1 hb1 ho1 hn1 hc1 hc2 k0
  go_wp2_with fail
  refine wp_region_held_drew (S := fun w' => Chg Never w2 w' ∧ w'.cell? ⟨b, 1, none⟩ = some (.slice na m.new.length nc) ∧ w'.cell? ⟨wb, woff + 1, none⟩ = some (.string P)) (by kernel_rfl) ⟨(Chg.refl Never w2).drew, d1, k1⟩ (fun hH => ?_)
  refine' tk 0 ?_
  refine' tk 1 ?_
  refine' tk 2 ?_
  refine' tk 3 ?_
  refine' tk 4 ?_
  refine' tk 5 ?_
  refine' tk 6 ?_
  refine wpAnyH_ready (rs := [7]) (by kernel_rfl) (by simp) ?_
  refine AllReadyH.cons rfl (fun K hK => ?_) AllReadyH.nil
  go_simp
  (go_at_call 27; refine (refPlace_any m.new P _ _ hnd).mono ?_; rintro e w3 ⟨rfl, hc3⟩; have hw3 := ((Chg.refl Never w2).drew).trans hc3; have hS2 : Chg Never w2 w3 ∧ w3.cell? ⟨b, 1, none⟩ = some (.slice na m.new.length nc) ∧ w3.cell? ⟨wb, woff + 1, none⟩ = some (.string P) := ⟨hw3, hw3.cellNever d1, hw3.cellNever k1⟩; clear hH hc3)
  try go_wp2_with fail
  refine hK.out _ _ ?_ (fun hH => ?_)
  · assumption
  clear hK K
  try simp only [Act.put, List.setIfInBounds_toArray, List.set_cons_zero, List.set_cons_succ]
  refine' tk 8 ?_
  refine wpAnyH_done (by kernel_rfl) ?_ _
  have hb3 := hb2.keep hw3 (fun x => x)
  have ho3 := ho2.never hw3
  have hn3 := hn2.never hw3
  obtain ⟨g0, g1⟩ := hb3.cell
  have f1 := hb3.free 1
  have hw := hw2.trans hw3
  have hd3 : DocAt w3 b m := ⟨_, _, hb3, ho3, hn3⟩
  clear d0 d1 k1 hb2 ho2 hn2 hw2 hw3 hS2 hnd
  by_cases zp : pathFault P = 0
  · rcases placeI_look m.new P with ⟨k1, k2⟩ | ⟨i, f, k1, k2, k3⟩
    · obtain ⟨y1, y2⟩ := drop_none hok.2 zp (by rw [k1]; decide)
      have Y1 := Lib.hid y1
      have Y2 := Lib.hid y2
      rw [k1, zp]
      clear y1 y2 zp k1 k2
      go_wp2_with fail
      refine (reftold_any okW (by decide) 4 _).mono ?_
      rintro e w4 ⟨rfl, rfl⟩
      go_wp2_with fail
      go_ret
      exact ⟨never_b hw, by rw [Y2.out]; exact hd3, by rw [Y1.out]; rfl⟩
    · obtain ⟨y1, y2⟩ := drop_at hok.2 zp k1
      have Y1 := Lib.hid y1
      have Y2 := Lib.hid y2
      have hi : i < m.new.length := (List.getElem?_eq_some_iff.1 k2).1
      have ti : decide ((i : Int) < 0) = false := decide_eq_false (by omega)
      have hDrop := Lib.hid (refDrop_any m.new i _ w3 hn3 hi (by omega))
      rw [k1, zp]
      clear y1 y2 zp k1 k2 k3
      go_wp2_with fail
      refine hDrop.out.mono ?_
      rintro e w4 ⟨r, rfl, hc4, hr⟩
      obtain ⟨ra, rc, rfl, _, _, _⟩ := rdv_slice hr
      have hd4 := hd3.never hc4
      have hb4 := hb3.keep hc4 (fun x => x)
      obtain ⟨l0, l1⟩ := hb4.cell
      have f4 := hb4.free 1
      have hw4 := hw.trans hc4
      have hA := doc_set1 hd4 hr
      have hcs := set_chg (b := b) (i := 1) (u := .slice ra (dropAt m.new i).length rc) hw4
      generalize (dropAt m.new i).length = nn at hA hcs ⊢
      clear hd3 hd4 hb3 g0 g1 f1 hr hDrop hn3 ho3
      go_wp2_with fail
      refine (reftold_any okW (by decide) 0 _).mono ?_
      rintro e w5 ⟨rfl, rfl⟩
      go_wp2_with fail
      go_ret
      exact ⟨hcs, by rw [Y2.out]; exact hA, by rw [Y1.out]; rfl⟩
  · obtain ⟨y1, y2⟩ := drop_path hok.2 zp
    have Y1 := Lib.hid y1
    have Y2 := Lib.hid y2
    have z1 : (pathFault P == 0) = false := beq_eq_false_iff_ne.2 zp
    clear y1 y2 zp
    generalize pathFault P = E at z1 Y1 ⊢
    generalize placeI m.new P = K
    go_wp2_with fail
    refine (reftold_any okW (by decide) E _).mono ?_
    rintro e w5 ⟨rfl, rfl⟩
    go_wp2_with fail
    go_ret
    exact ⟨never_b hw, by rw [Y2.out]; exact hd3, by rw [Y1.out]; rfl⟩
end Go.Proofs.YtmjpfoeaobdaeaaGreatDoor
namespace Go.Proofs.YtmjpfoeaobdaeaaGreatDoor
open Go.RowKit

def ValRow (e : TypeId) (B : Nat) (wr : World) (len : Nat) (g : Nat → Value) : Prop :=
  ∃ c : Array Value, wr.heap[B]? = some (.cells c e (0, 0)) ∧ c.size = len ∧ ∀ k, k < len → c[k]? = some (g k)
theorem ValRow.cell {e : TypeId} {B : Nat} {wr : World} {len : Nat} {g : Nat → Value} (h : ValRow e B wr len g) {k : Nat} (hk : k < len) : wr.cell? ⟨B, k, none⟩ = some (g k) := by
  obtain ⟨c, h1, h2, h3⟩ := h
  simp only [World.cell?, h1]
  exact h3 k hk
theorem ValRow.lt {e : TypeId} {B : Nat} {wr : World} {len : Nat} {g : Nat → Value} (h : ValRow e B wr len g) : B < wr.heap.size := by
  obtain ⟨c, h1, _⟩ := h
  exact (Array.getElem?_eq_some_iff.1 h1).1
theorem ValRow.free {e : TypeId} {B : Nat} {wr : World} {len : Nat} {g : Nat → Value} (h : ValRow e B wr len g) (k : Nat) : wr.frozen? ⟨B, k, none⟩ = false := by
  obtain ⟨c, h1, h2, h3⟩ := h
  simp [World.frozen?, h1]
theorem ValRow.keep {e : TypeId} {B : Nat} {wr w' : World} {len : Nat} {g : Nat → Value} {O : Nat → Prop} (h : ValRow e B wr len g) (hc : Chg O wr w') (hB : ¬ O B) : ValRow e B w' len g := by
  obtain ⟨c, h1, h2⟩ := h
  refine ⟨c, ?_, h2⟩
  rw [hc.block B (Array.getElem?_eq_some_iff.1 h1).1 hB]
  exact h1
theorem ValRow.set {e : TypeId} {B : Nat} {wr : World} {len : Nat} {f : Nat → Value} (h : ValRow e B wr len f) {k : Nat} (hk : k < len) (b : Value) :
    ValRow e B (wr.setCell ⟨B, k, none⟩ b) len (fun j => if j = k then b else f j) := by
  obtain ⟨c, h1, h2, h3⟩ := h
  refine ⟨c.setIfInBounds k b, ?_, by simpa using h2, ?_⟩
  · simp [World.setCell, Array.getElem?_modify, h1]
  · intro j hj
    show _ = some (if j = k then b else f j)
    rw [Array.getElem?_setIfInBounds]
    by_cases e : j = k
    · subst e; simp [h2, hj]
    · rw [if_neg (fun h => e h.symm), if_neg e]; exact h3 j hj
theorem ValRow.other {e : TypeId} {B : Nat} {wr : World} {len : Nat} {f : Nat → Value} (h : ValRow e B wr len f) {p : Addr} (hp : p.block ≠ B) (v : Value) : ValRow e B (wr.setCell p v) len f :=
  h.keep (O := fun k => k = p.block) ((Chg.refl (fun k => k = p.block) wr).setCell (p := p) (.inr rfl) v) (fun h => hp h.symm)
theorem ValRow.congr {e : TypeId} {B : Nat} {wr : World} {len : Nat} {f g : Nat → Value} (h : ValRow e B wr len f) (hg : ∀ k, k < len → g k = f k) : ValRow e B wr len g := by
  obtain ⟨c, h1, h2, h3⟩ := h
  exact ⟨c, h1, h2, fun k hk => by rw [hg k hk]; exact h3 k hk⟩
theorem valRow_made {e : TypeId} {z : Value} (hz : z.cells = #[z]) {w1 : World} {B len : Nat} (h : w1.ownsRow 0 e 1 (.slice (some ⟨B, 0, none⟩) len len) len (madeCells z.cells (len * 1)).toList) : ValRow e B w1 len fun _ => z := by
  obtain ⟨_, hx⟩ := h
  rcases hx with ⟨h, _⟩ | ⟨g, cap, cur, hv, _, hh, hn, hm, hcs, htake⟩
  · cases h
  · injection hv with hv1 _ hv3
    injection hv1 with hv1
    injection hv1 with hv1
    subst hv1 hv3
    refine ⟨cur, hh, by simpa using hcs, ?_⟩
    intro k hk
    have e : cur.toList[k]? = (cur.toList.take (len * 1))[k]? := by rw [List.getElem?_take, if_pos (by omega)]
    rw [← Array.getElem?_toList, e, htake]
    simp [madeCells, hz, hk, Nat.mod_one]
end Go.Proofs.YtmjpfoeaobdaeaaGreatDoor
namespace Go.Proofs.YtmjpfoeaobdaeaaGreatDoor

def lcs : List ByteArray → List ByteArray → Nat
  | [], _ => 0
  | _ :: _, [] => 0
  | x :: a, y :: b => if x = y then max (max (lcs a (y :: b)) (lcs (x :: a) b)) (lcs a b + 1) else max (lcs a (y :: b)) (lcs (x :: a) b)
termination_by a b => a.length + b.length
theorem lcs_nil (b : List ByteArray) : lcs [] b = 0 := by rw [lcs]
theorem lcs_nil' (a : List ByteArray) : lcs a [] = 0 := by cases a <;> rw [lcs]
theorem lcs_cons (x y : ByteArray) (a b : List ByteArray) : lcs (x :: a) (y :: b) = if x = y then max (max (lcs a (y :: b)) (lcs (x :: a) b)) (lcs a b + 1) else max (lcs a (y :: b)) (lcs (x :: a) b) := by rw [lcs]
theorem far_lcs : ∀ (n : Nat) (a b : List ByteArray), a.length + b.length = n → far a b + 2 * lcs a b = a.length + b.length := by
  intro n
  induction n using Nat.strongRecOn with
  | ind n ih =>
    intro a b hn
    cases a with
    | nil => rw [far_nil, lcs_nil]; simp
    | cons x a =>
      cases b with
      | nil => rw [far_nil', lcs_nil']; simp
      | cons y b =>
        simp only [List.length_cons] at hn ⊢
        have h1 := ih _ (by simp only [List.length_cons]; omega) a (y :: b) rfl
        have h2 := ih _ (by simp only [List.length_cons]; omega) (x :: a) b rfl
        have h3 := ih _ (by omega) a b rfl
        simp only [List.length_cons] at h1 h2
        rw [far_cons, lcs_cons]
        by_cases e : x = y
        · rw [if_pos e, if_pos e]
          have k1 := far_unput y a b
          have k2 := far_untake x a b
          omega
        · rw [if_neg e, if_neg e]
          omega
theorem far_lcs' (a b : List ByteArray) : far a b + 2 * lcs a b = a.length + b.length := far_lcs _ a b rfl
theorem lcs_le (a b : List ByteArray) : lcs a b ≤ a.length ∧ lcs a b ≤ b.length := by
  have h := far_lcs' a b
  have h1 := far_ge a b
  have h2 := far_ge b a
  rw [far_symm b a] at h2
  omega
theorem lcs_same (x : ByteArray) (a b : List ByteArray) : lcs (x :: a) (x :: b) = lcs a b + 1 := by
  have h := far_lcs' (x :: a) (x :: b)
  have h2 := far_lcs' a b
  rw [far_same] at h
  simp only [List.length_cons] at h
  omega
theorem lcs_test (x y : ByteArray) (a b : List ByteArray) : (lcs a (y :: b) = lcs (x :: a) (y :: b)) ↔ far a (y :: b) + 1 = far (x :: a) (y :: b) := by
  have h := far_lcs' (x :: a) (y :: b)
  have h2 := far_lcs' a (y :: b)
  simp only [List.length_cons] at h h2
  omega

def lcsAt (a b : List ByteArray) (i k : Nat) : Nat := lcs (a.drop i) (b.drop k)
theorem drop_cons {α : Type} {l : List α} {k : Nat} {x : α} (h : l[k]? = some x) : l.drop k = x :: l.drop (k + 1) := by
  obtain ⟨h1, h2⟩ := List.getElem?_eq_some_iff.1 h
  rw [← h2]; exact List.drop_eq_getElem_cons h1
theorem lcsAt_step {a b : List ByteArray} {i k : Nat} {x y : ByteArray} (hx : a[i]? = some x) (hy : b[k]? = some y) :
    lcsAt a b i k = if x = y then max (max (lcsAt a b (i + 1) k) (lcsAt a b i (k + 1))) (lcsAt a b (i + 1) (k + 1) + 1) else max (lcsAt a b (i + 1) k) (lcsAt a b i (k + 1)) := by
  unfold lcsAt
  conv => lhs; rw [drop_cons hx, drop_cons hy, lcs_cons]
  rw [← drop_cons hx, ← drop_cons hy]
theorem lcsAt_left (a b : List ByteArray) (k : Nat) : lcsAt a b a.length k = 0 := by unfold lcsAt; rw [List.drop_length, lcs_nil]
theorem lcsAt_right (a b : List ByteArray) (i : Nat) : lcsAt a b i b.length = 0 := by unfold lcsAt; rw [List.drop_length, lcs_nil']
theorem lcsAt_le (a b : List ByteArray) (i k : Nat) : lcsAt a b i k ≤ a.length := by
  have := (lcs_le (a.drop i) (b.drop k)).1
  unfold lcsAt
  rw [List.length_drop] at this
  omega
end Go.Proofs.YtmjpfoeaobdaeaaGreatDoor
