/-
  PARTS: THE WALKS of tree.Get (its lines lie in a row of their own), of run.lines, run.more.; THE WALK of run.number: a number of four digits at most, or a panic.; THE WALKS of act's closure 'same' and of slices.EqualFunc by it.; THE WALK OF LAYER 2: Far.; THE WALK of (*session).act: drop, far, same.; THE WALK of the document's words.; THE DOCUMENT's BOX OF TWO TREES: no tree is read by way of it.; THE WALK of the document's Line: back.; THE WALK of the document's Line: no command.
-/
import Derived.Test.YtmjpfoeaobdaeaaGreatDoorRa15
import Derived.Test.YtmjpfoeaobdaeaaGreatDoorRa10
import Derived.Test.YtmjpfoeaobdaeaaGreatDoorRa14
import Derived.Test.YtmjpfoeaobdaeaaGreatDoorRa2
import Derived.Deep.RegionHeld3
import Derived.Test.YtmjpfoeaobdaeaaGreatDoorRa13
import Derived.Lib.AtoiTie
import Derived.Test.YtmjpfoeaobdaeaaGreatDoorRa6
import Derived.Test.YtmjpfoeaobdaeaaGreatDoorRa8
import Derived.Test.YtmjpfoeaobdaeaaGreatDoorRa3
import Derived.Test.YtmjpfoeaobdaeaaGreatDoorRa9
set_option linter.unusedVariables false
set_option linter.unusedSimpArgs false
namespace Go.Proofs.YtmjpfoeaobdaeaaGreatDoor
open Go.RowKit

theorem own_old {α : Type} [Dat α] {e : TypeId} {w0 w1 w2 : World} {v : Value} {l : List α} (h : Own e w2 (Old w1.heap.size) v l) (hs : w0.heap.size ≤ w1.heap.size) : Own e w2 (Old w0.heap.size) v l :=
  h.keep (Chg.refl Never w2) (fun _ _ h => h.elim) (fun _ _ hk => Nat.lt_of_lt_of_le hk hs)
set_option maxHeartbeats 1000000 in
set_option maxRecDepth 100000 in
theorem tree_get_own (t : List File) (p : ByteArray) (v : Value) (w : World) (h : Rdv w Never v t) (m : Int) (hm : w.cell? ⟨0, 0, none⟩ = some (.int .i64 m)) :
    Calls Tryz.prog 68 #[v, .string p] w fun e w' => ∃ r, e = .returned (.tuple #[r, errV (getFault t p)]) ∧ Chg Never w w' ∧ Own 9 w' (Old w.heap.size) r (getR t p) := by
  obtain ⟨a, cap, rfl, h1, h2, _⟩ := rdv_slice h
  unfold maxLen at h2
  by_cases z : atFault t p = 0
  · have Z := Lib.hid z
    by_cases zi : isAt t p = true
    · have ZI := Lib.hid zi
      have HF : Hid (getFault t p = 0) := by unfold Hid getFault; rw [if_pos z, if_pos zi]
      have HR : Hid (getR t p = linesAt t p) := if_pos HF.out
      obtain ⟨x, hx, _⟩ := isAt_get zi
      have HL : Hid (linesAt t p = x.lines) := by unfold Hid linesAt; rw [hx]; rfl
      have hlt := (List.getElem?_eq_some_iff.1 hx).1
      have hz8 := (atFault_zero z).1
      have hxl := linesFault_len (fileFault_zero ((treeFault_zero hz8).2.1 x (List.mem_of_getElem? hx))).2
      have HX := Lib.hid hx
      clear z zi hx hz8
      go_enter Tryz.func68, Tryz.ntmps68
      go_wp2_with fail
      refine (tree_at_any t p _ _ h m hm).mono ?_
      rintro e w1 ⟨rfl, hw⟩
      rw [show atPos t p = posOf t p from if_pos Z.out, show atIs t p = isAt t p from if_pos Z.out, Z.out, ZI.out, errV_zero]
      obtain ⟨_, _, hav, _, _, h3⟩ := rdv_slice (h.never hw)
      simp only [Value.slice.injEq, true_and] at hav
      obtain ⟨rfl, rfl⟩ := hav
      obtain ⟨b, off, lv, rfl, _, _, c0, c1, hps, hlv⟩ := elems_file h3 HX.out
      obtain ⟨la, lcap, rfl, _, _, _⟩ := rdv_slice hlv
      generalize posOf t p = k at hlt c0 c1 ⊢
      clear h3 c0
      go_wp2_with fail
      refine (clone_str Never x.lines _ _ hlv (by omega)).mono ?_
      rintro e w2 ⟨r2, rfl, hc2, hown2⟩
      have hr := own_old hown2 hw.size
      obtain ⟨ra, rn, rc, rfl⟩ := own_isSlice hown2
      clear hown2
      go_wp2_with fail
      go_ret2
      exact ⟨_, by rw [HF.out]; rfl, hw.trans hc2, by rw [HR.out, HL.out]; exact hr⟩
    · have ZI : Hid (isAt t p = false) := Bool.eq_false_iff.2 zi
      have HF : Hid (getFault t p = 4) := by unfold Hid getFault; rw [if_pos z, if_neg zi]
      have HR : Hid (getR t p = []) := if_neg (by rw [HF.out]; decide)
      clear z zi
      go_enter Tryz.func68, Tryz.ntmps68
      go_wp2_with fail
      refine (tree_at_any t p _ _ h m hm).mono ?_
      rintro e w1 ⟨rfl, hw⟩
      rw [show atPos t p = posOf t p from if_pos Z.out, show atIs t p = isAt t p from if_pos Z.out, Z.out, ZI.out, errV_zero]
      go_wp2_with fail
      go_ret2
      exact ⟨_, by rw [HF.out]; rfl, hw, by rw [HR.out]; exact own_nil _ _ _⟩
  · have Z := Lib.hid z
    have HF : Hid (getFault t p = atFault t p) := if_neg z
    have HR : Hid (getR t p = []) := if_neg (by rw [HF.out]; exact z)
    go_enter Tryz.func68, Tryz.ntmps68
    go_wp2_with fail
    refine (tree_at_any t p _ _ h m hm).mono ?_
    rintro e w1 ⟨rfl, hw⟩
    rw [show atPos t p = 0 from if_neg Z.out, show atIs t p = false from if_neg Z.out, errV_pos Z.out]
    clear z
    go_wp2_with fail
    go_ret2
    exact ⟨_, by rw [HF.out, errV_pos Z.out]; rfl, hw, by rw [HR.out]; exact own_nil _ _ _⟩

def linesF (t : List File) (p : ByteArray) : Int := if getFault t p = 4 then 0 else getFault t p
set_option maxHeartbeats 1000000 in
set_option maxRecDepth 100000 in
theorem rlines_any (t : List File) (p : ByteArray) (v : Value) (w : World) (h : Rdv w Never v t) (m : Int) (hm : w.cell? ⟨0, 0, none⟩ = some (.int .i64 m)) :
    Calls Tryz.prog 37 #[v, .string p] w fun e w' => ∃ r, e = .returned (.tuple #[r, errV (linesF t p)]) ∧ Chg Never w w' ∧ Own 9 w' (Old w.heap.size) r (getR t p) := by
  by_cases z : getFault t p = 4
  · have HF : Hid (linesF t p = 0) := if_pos z
    have HR : Hid (getR t p = []) := if_neg (by rw [z]; decide)
    have Z := Lib.hid z
    have t4 : (getFault t p == 4) = true := by rw [z]; rfl
    clear z
    go_enter Tryz.func37, Tryz.ntmps37
    go_wp2_with fail
    refine (tree_get_own t p _ _ h m hm).mono ?_
    rintro e w1 ⟨r, rfl, hw, hown⟩
    clear hown
    obtain ⟨E, hE⟩ : ∃ E, errV (getFault t p) = E := ⟨_, rfl⟩
    have hi : Calls Tryz.prog 69 #[E, .iface 64 (.int .i64 4)] w1 fun e w' => e = .returned (.bool true) ∧ w1 = w' := by
      have := is_none_any (getFault t p) w1
      rw [hE, t4] at this
      exact this
    rw [hE]
    clear hE t4
    go_wp2_with fail
    refine hi.mono ?_
    rintro e w2 ⟨rfl, rfl⟩
    clear hi
    go_wp2_with fail
    go_ret2
    exact ⟨_, by rw [HF.out]; rfl, hw, by rw [HR.out]; exact own_nil _ _ _⟩
  · have HF : Hid (linesF t p = getFault t p) := if_neg z
    have t4 : (getFault t p == 4) = false := beq_eq_false_iff_ne.2 z
    clear z
    go_enter Tryz.func37, Tryz.ntmps37
    go_wp2_with fail
    refine (tree_get_own t p _ _ h m hm).mono ?_
    rintro e w1 ⟨r, rfl, hw, hown⟩
    obtain ⟨ra, rn, rc, rfl⟩ := own_isSlice hown
    obtain ⟨E, hE⟩ : ∃ E, errV (getFault t p) = E := ⟨_, rfl⟩
    have hi : Calls Tryz.prog 69 #[E, .iface 64 (.int .i64 4)] w1 fun e w' => e = .returned (.bool false) ∧ w1 = w' := by
      have := is_none_any (getFault t p) w1
      rw [hE, t4] at this
      exact this
    have HE := Lib.hid hE
    rw [hE]
    clear hE t4
    go_wp2_with fail
    refine hi.mono ?_
    rintro e w2 ⟨rfl, rfl⟩
    clear hi
    go_wp2_with fail
    go_ret2
    exact ⟨_, by rw [HF.out, HE.out]; rfl, hw, hown⟩

theorem path_ne4 (p : ByteArray) : pathFault p ≠ 4 := by
  unfold pathFault
  split
  · decide
  · split <;> decide
theorem at_tree {t : List File} (h : Tree t) (p : ByteArray) : atFault t p = pathFault p := by unfold atFault; rw [if_pos (tree_iff.1 h)]
theorem moreFault_bad {t : List File} (h : Tree t) {p x : ByteArray} (hp : pathFault p ≠ 0) : moreFault t p x = pathFault p := by
  unfold moreFault putFault moreFile
  rw [at_tree h, if_neg hp]
theorem linesF_tree {t : List File} (h : Tree t) (p : ByteArray) : linesF t p = pathFault p := by
  unfold linesF getFault
  rw [at_tree h]
  by_cases hp : pathFault p = 0
  · rw [if_pos hp, hp]
    cases isAt t p <;> simp
  · rw [if_neg hp, if_neg (path_ne4 p)]
theorem getR_in {t : List File} (h : Tree t) {p : ByteArray} (hp : pathFault p = 0) : getR t p = linesIn t p := getR_look h hp
theorem told_any_text {k : Int} (h : k ≠ 0) (s r : List UInt8) : toldS s k = toldS r k := by rw [told_pos h, told_pos h]
def MorePost (b i : Nat) (t : List File) (p x : ByteArray) (w : World) (e : Ending) (w' : World) : Prop :=
  e = .returned (.string (toB (toldS okW (moreFault t p x)))) ∧
    ((moreFault t p x ≠ 0 ∧ Chg Never w w') ∨ (moreFault t p x = 0 ∧ ∃ w1 r, Chg Never w w1 ∧ Rdv w1 (Old w.heap.size) r (putAt t (moreFile t p x)) ∧ Chg Never (w1.setCell ⟨b, i, none⟩ r) w'))
set_option maxHeartbeats 2000000 in
set_option maxRecDepth 100000 in
theorem rmore_any (b i : Nat) (t : List File) (p x : ByteArray) (vt : Value) (w : World) (hT : Tree t) (hcb : w.cell? ⟨b, i, none⟩ = some vt) (hfz : w.frozen? ⟨b, i, none⟩ = false) (hb9 : 9 ≤ b) (h : Rdv w Never vt t) (hp : p.size ≤ maxLen) (hx : x.size ≤ maxLen)
    (m : Int) (hm : w.cell? ⟨0, 0, none⟩ = some (.int .i64 m)) (hg : w.cell? ⟨1, 0, none⟩ = some errT) :
    Calls Tryz.prog 20 #[.pointer (some ⟨b, i, none⟩), .string p, .string x] w (MorePost b i t p x w) := by
  have hlt : b < w.heap.size := World.block_lt_of_cell? w _ hcb
  obtain ⟨a, cap, rfl, h1, h2, _⟩ := rdv_slice h
  by_cases zp : pathFault p = 0
  · have HL : Hid (linesF t p = 0) := by rw [Hid, linesF_tree hT, zp]
    have HR : Hid (getR t p = linesIn t p) := getR_in hT zp
    have hln := linesIn_len hT p
    have HP : Hid (putR t (moreFile t p x) = if moreFault t p x = 0 then putAt t (moreFile t p x) else []) := rfl
    have HM : Hid (moreFault t p x = putFault t (moreFile t p x)) := rfl
    have hmf : (moreFile t p x).path = p ∧ (moreFile t p x).lines = linesIn t p ++ [x] := ⟨rfl, rfl⟩
    clear zp
    go_enter Tryz.func20, Tryz.ntmps20
    go_wp2_with fail
    refine (rlines_any t p _ _ h m hm).mono ?_
    rintro e w1 ⟨r, rfl, hw, hown⟩
    rw [HL.out, errV_zero]
    rw [HR.out] at hown
    obtain ⟨ra, rn, rc, rfl⟩ := own_isSlice hown
    generalize hL : linesIn t p = L at hown hln hmf
    go_wp2_with fail
    have hcb1 := hw.cellNever hcb
    refine wp_region_held_drew (S := fun w' => Chg Never w w' ∧ w'.cell? ⟨b, i, none⟩ = some (.slice a t.length cap)) (by kernel_rfl) ⟨hw.drew, hcb1⟩ (fun hH => ?_)
    refine' tk 0 ?_
    refine' tk 1 ?_
    refine' tk 2 ?_
    refine' tk 3 ?_
    refine' tk 4 ?_
    refine' tk 5 ?_
    refine wpAnyH_ready (rs := [6]) (by kernel_rfl) (by simp) ?_
    refine AllReadyH.cons rfl (fun K hK => ?_) AllReadyH.nil
    go_simp
    have hA : Chg Never w (w1.drew.alloc (.cells #[.string x] 9)) := hw.drew.alloc _
    refine hK.out _ _ ⟨hA, hA.cellNever hcb⟩ (fun hH2 => ?_)
    clear hK K hH
    try simp only [Act.put, List.setIfInBounds_toArray, List.set_cons_zero, List.set_cons_succ]
    obtain ⟨va, w2, hrun, hown2, hch2, hnb⟩ := run_push (P := Tryz.prog) (t := 25) (ty := 25) (e := 9) elemOk_str (w0 := w1.drew) (O := Old w.heap.size) (y := x) (es := [.string x]) 9 (hown.never ((Chg.refl Never w1).drew)) ⟨rfl, hx⟩ (old_lt hw.drew) (by omega)
    have hw2 : Chg Never w w2 := own_step hw.drew (hown.never ((Chg.refl Never w1).drew)) hch2
    obtain ⟨wa, wn, wc, rfl⟩ := own_isSlice hown2
    refine wpAnyH_ready (rs := [7]) (by kernel_rfl) (by simp) ?_
    refine AllReadyH.cons rfl (fun K hK => ?_) AllReadyH.nil
    refine step_append_eq (by rfl) _ _ 25 25 (by rfl) _ _ (by rfl) (by rfl) hrun ?_
    refine hK.out _ _ ⟨hw2, hw2.cellNever hcb⟩ (fun hH => ?_)
    clear hK K hrun hch2 hnb hH2 hA
    try simp only [Act.put, List.setIfInBounds_toArray, List.set_cons_zero, List.set_cons_succ]
    have hf2 : Rdv w2 Never (.slice wa wn wc) (moreFile t p x).lines := by rw [hmf.2]; exact hown2.rdv.sub (fun _ _ h => h.elim)
    have ht2 := h.never hw2
    have hm2 := hw2.cellNever hm
    have HPath : Hid ((moreFile t p x).path = p) := hmf.1
    obtain ⟨F, hF⟩ : ∃ F, moreFile t p x = F := ⟨_, rfl⟩
    have HFF := Lib.hid hF
    rw [hF] at HP HM hf2 HPath hmf
    clear hL hmf hown2 hown HL HR hF
    refine' tk 8 ?_
    refine wpAnyH_ready (rs := [9]) (by kernel_rfl) (by simp) ?_
    refine AllReadyH.cons rfl (fun K hK => ?_) AllReadyH.nil
    go_simp
    (go_at_call 39; refine (show Calls Tryz.prog 39 #[.slice a t.length cap, .agg #[.string p, .slice wa wn wc]] w2 _ from (by have := tree_put_any t F _ (.slice wa wn wc) w2 ht2 hf2 (by rw [HPath.out]; exact hp) m hm2; rw [HPath.out] at this; exact this)).mono ?_; rintro e w3 ⟨r3, rfl, hc3, hr3⟩; have hw3 := hw2.trans hc3; have hS3 : Chg Never w w3 ∧ w3.cell? ⟨b, i, none⟩ = some (.slice a t.length cap) := ⟨hw3, hw3.cellNever hcb⟩; have hr3o := hr3.sub (O' := Old w.heap.size) (fun j _ hj => Nat.lt_of_lt_of_le hj hw2.size); obtain ⟨qa, qc, rfl, _, _, _⟩ := rdv_slice hr3; clear hH hc3)
    try go_wp2_with fail
    refine hK.out _ _ ?_ (fun hH => ?_)
    · assumption
    clear hK K
    try simp only [Act.put, List.setIfInBounds_toArray, List.set_cons_zero, List.set_cons_succ]
    refine' tk 10 ?_
    refine' tk 11 ?_
    refine' tk 12 ?_
    refine' tk 13 ?_
    refine' tk 14 ?_
    refine wpAnyH_done (by kernel_rfl) ?_ _
    rw [← HM.out]
    by_cases z : moreFault t p x = 0
    · have Z := Lib.hid z
      have hr4 : Rdv w3 (Old w.heap.size) (.slice qa (putR t F).length qc) (putAt t F) := by
        have e := HP.out
        rw [if_pos z] at e
        rw [← e]; exact hr3o
      generalize (putR t F).length = nn at hr4
      rw [z, errV_zero]
      have hcb3 := hw3.cellNever hcb
      have hfz3 := (hw3.frozen (p := ⟨b, i, none⟩) hlt (fun x => x)).trans hfz
      have hcs : Chg (fun k => k = b) w (w3.setCell ⟨b, i, none⟩ (.slice qa nn qc)) := Chg.setCell (O := fun k => k = b) (hw3.mono (fun _ _ h => h.elim)) (p := ⟨b, i, none⟩) (.inr rfl) _
      have hg4 := hcs.cell hg (by show ¬ 1 = b; omega)
      clear z hr3 hr3o hS3 HP HM
      go_wp2_with fail
      refine (rtold_any okW (by decide) 0 _ hg4).mono ?_
      rintro e w5 ⟨rfl, hc5⟩
      go_wp2_with fail
      go_ret
      exact ⟨by rw [Z.out]; rfl, .inr ⟨Z.out, w3, _, hw3, by rw [HFF.out]; exact hr4, hc5⟩⟩
    · have Z := Lib.hid z
      have hg4 := hw3.cellNever hg
      generalize (putR t F).length = nn
      obtain ⟨E, hE⟩ : ∃ E, errV (moreFault t p x) = E := ⟨_, rfl⟩
      have HE := Lib.hid hE
      have hi := rtold_any okW (by decide) (moreFault t p x) _ hg4
      rw [hE] at hi ⊢
      obtain ⟨T, P, rfl⟩ : ∃ T P, E = .iface T P := ⟨_, _, by rw [← hE, errV_pos z]⟩
      clear z hr3 hr3o hS3 HP HM hE
      go_wp2_with fail
      refine hi.mono ?_
      rintro e w5 ⟨rfl, hc5⟩
      go_wp2_with fail
      go_ret
      exact ⟨rfl, .inl ⟨Z.out, hw3.trans hc5⟩⟩
  · have HL : Hid (linesF t p = pathFault p) := linesF_tree hT p
    have HM : Hid (moreFault t p x = pathFault p) := moreFault_bad hT zp
    have ZP := Lib.hid zp
    clear zp
    go_enter Tryz.func20, Tryz.ntmps20
    go_wp2_with fail
    refine (rlines_any t p _ _ h m hm).mono ?_
    rintro e w1 ⟨r, rfl, hw, hown⟩
    obtain ⟨ra, rn, rc, rfl⟩ := own_isSlice hown
    rw [HL.out]
    have hi := rtold_any [] (by simp) (pathFault p) _ (hw.cellNever hg)
    obtain ⟨E, hE⟩ : ∃ E, errV (pathFault p) = E := ⟨_, rfl⟩
    rw [hE] at hi ⊢
    obtain ⟨T, P, rfl⟩ : ∃ T P, E = .iface T P := ⟨_, _, by rw [← hE, errV_pos ZP.out]⟩
    have HTT : Hid (toldS [] (pathFault p) = toldS okW (moreFault t p x)) := by rw [Hid, HM.out, told_any_text ZP.out]
    clear hown hE
    go_wp2_with fail
    refine hi.mono ?_
    rintro e w2 ⟨rfl, hc2⟩
    go_wp2_with fail
    go_ret
    exact ⟨by rw [← HTT.out]; rfl, .inl ⟨by rw [HM.out]; exact ZP.out, hw.trans hc2⟩⟩
end Go.Proofs.YtmjpfoeaobdaeaaGreatDoor
namespace Go.Proofs.YtmjpfoeaobdaeaaGreatDoor
open Go.RowKit

theorem numM_some {s : List UInt8} {n : Nat} (h : numM 4 s = some n) : Lib.decNat s = some n ∧ s.length ≤ 4 ∧ Lib.decDigits n = s := by
  unfold numM at h
  split at h
  · rename_i hl
    split at h
    · rename_i m hm
      split at h
      · rename_i hd
        injection h with h
        subst h
        exact ⟨hm, hl, hd⟩
      · cases h
    · cases h
  · cases h
theorem numM_atoi {s : List UInt8} {n : Nat} (h : numM 4 s = some n) : Lib.atoiAll s = .ok (n : Int) ∧ s.length ≤ 4 ∧ Lib.itoa n = s := by
  obtain ⟨h1, h2, h3⟩ := numM_some h
  refine ⟨?_, h2, by rw [itoa_nat, h3]⟩
  obtain ⟨hne, hd⟩ := Lib.decNat_some h1
  cases s with
  | nil => exact absurd rfl hne
  | cons c r =>
    obtain ⟨d, hc⟩ := Lib.digit_of_decFrom _ _ _ hd 0 c rfl
    have := Lib.digitVal_eq hc
    rw [Lib.atoiAll_plain c r (by omega) (by omega), Lib.signless_short (by omega), h1]
    rfl
theorem numM_small {n : Nat} (h : n < 10000) : numM 4 (Lib.decDigits n) = some n := by
  obtain ⟨h1, h2⟩ := digits_len n 3 (by omega)
  unfold numM
  rw [if_pos h1]
  have : Lib.decNat (Lib.decDigits n) = some n := by
    rw [Lib.decNat, decFrom_digits]
    cases e : Lib.decDigits n with
    | nil => exact absurd e h2
    | cons a b => rfl
  rw [this]
  exact if_pos rfl
theorem numM_of_ok {s : List UInt8} {v : Int} (h0 : 0 ≤ v) (h4 : s.length ≤ 4) (he : Lib.itoa v = s) : numM 4 s = some v.toNat := by
  obtain ⟨n, rfl⟩ : ∃ n : Nat, v = n := ⟨v.toNat, by omega⟩
  rw [itoa_nat] at he
  have hl : n < 10000 := by
    have h1 := Lib.lt_pow_nDigits n
    have h2 := Lib.decDigits_length n
    rw [he] at h2
    have : (10 : Nat) ^ Lib.nDigits n ≤ 10 ^ 4 := Nat.pow_le_pow_right (by decide) (by omega)
    omega
  rw [← he, numM_small hl]; rfl
theorem numM4_lt {s : List UInt8} {n : Nat} (h : numM 4 s = some n) : n < 10000 := by
  obtain ⟨_, h2, h3⟩ := numM_some h
  have h1 := Lib.lt_pow_nDigits n
  have h4 := Lib.decDigits_length n
  rw [h3] at h4
  have : (10 : Nat) ^ Lib.nDigits n ≤ 10 ^ 4 := Nat.pow_le_pow_right (by decide) (by omega)
  omega
abbrev unreadP : List PanicEntry := [{ v := .iface 51 (.agg #[]), recovered := false }]
def NumRP (s : List UInt8) (w : World) (e : Ending) (w' : World) : Prop :=
  Chg Never w w' ∧ match numM 4 s with
    | some n => e = .returned (.int .i64 n)
    | none => e = .panicked unreadP
theorem numRP_no {s : List UInt8} {w w' : World} (h : numM 4 s = none) (hc : Chg Never w w') : NumRP s w (.panicked unreadP) w' := ⟨hc, by rw [h]⟩
theorem numRP_yes {s : List UInt8} {w w' : World} {v : Int} (h : numM 4 s = some v.toNat) (h0 : 0 ≤ v) (hc : Chg Never w w') : NumRP s w (.returned (.int .i64 v)) w' := ⟨hc, by rw [h]; show Ending.returned (.int .i64 v) = .returned (.int .i64 (v.toNat : Int)); rw [Int.toNat_of_nonneg h0]⟩
set_option maxHeartbeats 1000000 in
set_option maxRecDepth 100000 in
theorem rnumber_any (s : ByteArray) (hs : s.size ≤ 1000000000) (w : World) (m : Int) (hg : Globs w m) :
    Calls Tryz.prog 42 #[.string s] w (NumRP s.data.toList w) := by
  by_cases hok : ∃ v, Lib.atoiAll s.data.toList = .ok v
  · obtain ⟨v, hv⟩ := hok
    obtain ⟨vb0, vb1⟩ := Lib.atoiAll_bounds hv
    have hno : numM 4 s.data.toList = none ∨ numM 4 s.data.toList = some v.toNat ∧ 0 ≤ v ∧ s.size ≤ 4 ∧ Lib.itoa v = s.data.toList := by
      cases hn : numM 4 s.data.toList with
      | none => exact .inl rfl
      | some n =>
        obtain ⟨q1, q2, q3⟩ := numM_atoi hn
        rw [hv] at q1
        injection q1 with q1
        subst q1
        exact .inr ⟨by simp, by omega, by rw [Lib.size_eq]; exact q2, q3⟩
    have HNO := Lib.hid hno
    have HV := Lib.hid hv
    clear hno hv
    go_enter Tryz.func42, Tryz.ntmps42
    go_wp2_with fail
    refine (Tryz.strconv_Atoi_ok s (by omega) v HV.out _).mono ?_
    rintro e w1 ⟨rfl, hW⟩
    have hc1 : Chg Never w w1 := by
      rcases hW with rfl | ⟨t, rfl⟩
      · exact Chg.refl _ _
      · exact Chg.of_below (Lib.bytesWorld_below _ _ _)
    clear hW
    by_cases v0 : v < 0
    · have hn : Hid (numM 4 s.data.toList = none) := by
        rcases HNO.out with q | q
        · exact q
        · exact absurd q.2.1 (by omega)
      have t0 : decide (v < (0 : Int)) = true := decide_eq_true v0
      clear HNO
      go_wp2_with fail
      exact ⟨rfl, numRP_no hn.out hc1⟩
    · have t0 : decide (v < (0 : Int)) = false := decide_eq_false v0
      by_cases l4 : 4 < s.size
      · have hn : Hid (numM 4 s.data.toList = none) := by
          rcases HNO.out with q | q
          · exact q
          · exact absurd q.2.2.1 (by omega)
        have t4 : decide ((4 : Int) < (s.size : Int)) = true := decide_eq_true (by omega)
        clear HNO
        go_wp2_with fail
        exact ⟨rfl, numRP_no hn.out hc1⟩
      · have t4 : decide ((4 : Int) < (s.size : Int)) = false := decide_eq_false (by omega)
        go_wp2_with fail
        refine (Tryz.strconv_Itoa v vb0 (by omega) _ (hg.never hc1).tab).mono ?_
        rintro e w2 ⟨rfl, k, os, rfl⟩
        have hc2 := hc1.trans (chg_grow w1 k os)
        by_cases he : Lib.itoa v = s.data.toList
        · have hyes := Lib.hid (numM_of_ok (by omega) (by rw [← Lib.size_eq]; omega) he)
          have ht : ((⟨(Lib.itoa v).toArray⟩ : ByteArray).toList != s.toList) = false := by rw [Lib.toList_data, Lib.toList_data, he]; simp
          have ht' : ((⟨(Lib.itoa v).toArray⟩ : ByteArray).toList == s.toList) = true := by rw [Lib.toList_data, Lib.toList_data, he]; simp
          clear he HNO
          generalize (⟨(Lib.itoa v).toArray⟩ : ByteArray) = X at ht ht' ⊢
          go_wp2_with fail
          go_ret
          exact numRP_yes hyes.out (by omega) hc2
        · have hn : Hid (numM 4 s.data.toList = none) := by
            rcases HNO.out with q | q
            · exact q
            · exact absurd q.2.2.2 he
          have ht : ((⟨(Lib.itoa v).toArray⟩ : ByteArray).toList != s.toList) = true := by rw [Lib.toList_data, Lib.toList_data]; simpa using he
          have ht' : ((⟨(Lib.itoa v).toArray⟩ : ByteArray).toList == s.toList) = false := by rw [Lib.toList_data, Lib.toList_data]; simpa using he
          clear he HNO
          generalize (⟨(Lib.itoa v).toArray⟩ : ByteArray) = X at ht ht' ⊢
          go_wp2_with fail
          exact ⟨rfl, numRP_no hn.out hc2⟩
  · have hn : Hid (numM 4 s.data.toList = none) := by
      cases hn : numM 4 s.data.toList with
      | none => rfl
      | some n => exact absurd ⟨_, (numM_atoi hn).1⟩ hok
    go_enter Tryz.func42, Tryz.ntmps42
    go_wp2_with fail
    refine (atoi_bad s hs (fun v q => hok ⟨v, q⟩) _ m hg).mono ?_
    rintro e w1 ⟨x, T, p, hx, rfl, hc1⟩
    clear hok
    go_wp2_with fail
    exact ⟨rfl, numRP_no hn.out hc1⟩
end Go.Proofs.YtmjpfoeaobdaeaaGreatDoor
namespace Go.Proofs.YtmjpfoeaobdaeaaGreatDoor
open Go.RowKit

theorem box_file (w : World) (T : TypeId) (p : ByteArray) (v : Value) (W : World) (hW : W = w.alloc (.cells #[.string p, v] T)) : Chg Never w W ∧ W.cell? ⟨w.heap.size, 0, none⟩ = some (.string p) ∧ W.cell? ⟨w.heap.size, 1, none⟩ = some v := by
  have n := heap_alloc_new w (.cells #[.string p, v] T)
  subst hW
  refine ⟨(Chg.refl Never w).alloc _, ?_, ?_⟩
  · simp only [World.cell?, n]; rfl
  · simp only [World.cell?, n]; rfl
set_option maxHeartbeats 2000000 in
set_option maxRecDepth 100000 in
theorem feq_any (f g : File) (fv gv : Value) (w : World) (hf : Rdv w Never fv f.lines) (hg : Rdv w Never gv g.lines) :
    Calls Tryz.prog 47 #[.agg #[.string f.path, fv], .agg #[.string g.path, gv]] w fun e w' => e = .returned (.bool (decide (f = g))) ∧ Chg Never w w' := by
  obtain ⟨a, cap, rfl, _, _, _⟩ := rdv_slice hf
  obtain ⟨c, cap', rfl, _, _, _⟩ := rdv_slice hg
  obtain ⟨W1, hW1⟩ : ∃ W, W = w.alloc (.cells #[.string f.path, .slice a f.lines.length cap] 70) := ⟨_, rfl⟩
  obtain ⟨hc1, b0, b1⟩ := box_file _ _ _ _ _ hW1
  obtain ⟨W2, hW2⟩ : ∃ W, W = W1.alloc (.cells #[.string g.path, .slice c g.lines.length cap'] 70) := ⟨_, rfl⟩
  obtain ⟨hc2, d0, d1⟩ := box_file _ _ _ _ _ hW2
  have hs1 : W1.heap.size = w.heap.size + 1 := by rw [hW1, World.size_alloc]
  rw [hs1] at d0 d1
  have b0 := hc2.cellNever b0
  have b1 := hc2.cellNever b1
  have hw := hc1.trans hc2
  have hfl := hf.never hw
  have hgl := hg.never hw
  by_cases hp : f.path = g.path
  · have HD : Hid (decide (f = g) = decide (f.lines = g.lines)) := by
      rw [Hid]
      congr 1
      cases f; cases g
      simp only at hp
      subst hp
      simp
    have t1 : (f.path.toList == g.path.toList) = true := by rw [hp]; simp
    clear hp
    go_enter Tryz.func47, Tryz.ntmps47
    go_wp2_with fail
    rw [← hW1, ← hW2]
    clear hW1 hW2
    go_wp2_with fail
    refine (equal_any _ _ _ _ _ hfl hgl).mono ?_
    rintro e w3 ⟨rfl, hc3⟩
    go_wp2_with fail
    go_ret
    exact ⟨by rw [HD.out]; rfl, hw.trans hc3⟩
  · have HD : Hid (decide (f = g) = false) := decide_eq_false (fun e => hp (by rw [e]))
    have t1 := str_beq_false hp
    clear hp
    go_enter Tryz.func47, Tryz.ntmps47
    go_wp2_with fail
    rw [← hW1, ← hW2]
    clear hW1 hW2
    go_wp2_with fail
    go_ret
    exact ⟨by rw [HD.out]; rfl, hw⟩
set_option maxHeartbeats 2000000 in
set_option maxRecDepth 100000 in
theorem eqfunc_any (l m : List File) (v u : Value) (w : World) (h : Rdv w Never v l) (g : Rdv w Never u m) :
    Calls Tryz.prog 49 #[v, u, .func (.func 47) #[] #[]] w fun e w' => e = .returned (.bool (decide (l = m))) ∧ Chg Never w w' := by
  obtain ⟨a, cap, rfl, h1, h2, h3⟩ := rdv_slice h
  obtain ⟨c, cap', rfl, g1, g2, g3⟩ := rdv_slice g
  unfold maxLen at h2 g2
  by_cases h4 : l.length = m.length
  · have h4' : ((l.length : Int) != m.length) = false := by simp [h4]
    have H4 := Lib.hid h4
    clear h4
    go_enter Tryz.func49, Tryz.ntmps49
    go_wp2_with fail
    go_loopw [17] (fun i wr => ∃ k : Nat, k ≤ l.length ∧ i = .int .i64 k ∧ Hid (l.take k = m.take k) ∧ Chg Never w wr) (fun i _ => l.length - (intOf i).toNat)
    case atStart => exact ⟨0, Nat.zero_le _, rfl, by simp [Hid], Chg.refl _ _⟩
    case round =>
      obtain ⟨k, hk, rfl, hf, hc⟩ := hrel
      rename World => wr
      by_cases hlt : k < l.length
      · obtain ⟨x, hx⟩ : ∃ x, l[k]? = some x := ⟨l[k], by simp [hlt]⟩
        obtain ⟨y, hy⟩ : ∃ y, m[k]? = some y := ⟨m[k]'(by rw [← H4.out]; exact hlt), by simp [H4.out ▸ hlt]⟩
        obtain ⟨b, off, xv, rfl, _, _, c0, c1, _, hxl⟩ := elems_file h3 hx
        obtain ⟨b', off', yv, rfl, _, _, e0, e1, _, hyl⟩ := elems_file g3 hy
        have c0 := hc.cellNever c0
        have c1 := hc.cellNever c1
        have e0 := hc.cellNever e0
        have e1 := hc.cellNever e1
        have hxl := hxl.never hc
        have hyl := hyl.never hc
        obtain ⟨xa, xc, rfl, _, _, _⟩ := rdv_slice hxl
        obtain ⟨ya, yc, rfl, _, _, _⟩ := rdv_slice hyl
        clear h3 g3 h g
        have hlm : k < m.length := by rw [← H4.out]; exact hlt
        have HX := Lib.hid hx
        have HY := Lib.hid hy
        clear hx hy
        have b1 : (k : Int) < l.length := by omega
        have b2 : (k : Int) < m.length := by omega
        obtain ⟨W1, hW1⟩ : ∃ W, W = wr.alloc (.cells #[.string x.path, .slice xa x.lines.length xc] 70) := ⟨_, rfl⟩
        obtain ⟨hc1, p0, p1⟩ := box_file _ _ _ _ _ hW1
        obtain ⟨W2, hW2⟩ : ∃ W, W = W1.alloc (.cells #[.string y.path, .slice ya y.lines.length yc] 70) := ⟨_, rfl⟩
        obtain ⟨hc2, q0, q1⟩ := box_file _ _ _ _ _ hW2
        have hs1 : W1.heap.size = wr.heap.size + 1 := by rw [hW1, World.size_alloc]
        rw [hs1] at q0 q1
        have p0 := hc2.cellNever p0
        have p1 := hc2.cellNever p1
        have hw2 := (hc.trans hc1).trans hc2
        have hxl2 := (hxl.never hc1).never hc2
        have hyl2 := (hyl.never hc1).never hc2
        have e0 := hc1.cellNever e0
        have e1 := hc1.cellNever e1
        rw [hW1] at e0 e1 hs1
        rw [hW1] at hW2
        go_wp2_with fail
        rw [← hW2]
        clear e0 e1 c0 c1 hW1 hW2
        go_wp2_with fail
        refine (feq_any x y _ _ _ hxl2 hyl2).mono ?_
        rintro e w3 ⟨rfl, hc3⟩
        have hw3 := hw2.trans hc3
        clear p0 p1 q0 q1
        by_cases hxy : x = y
        · subst hxy
          rw [decide_eq_true rfl]
          go_wp2_with fail
          go_roundw
          case rel => exact ⟨k + 1, by omega, by go_num, take_same hf HX.out HY.out, hw3⟩
          case measure => simp [intOf]; omega
        · rw [decide_eq_false hxy]
          have HN := Lib.hid (ne_of_get HX.out HY.out hxy)
          go_wp2_with fail
          go_ret
          exact ⟨by rw [decide_eq_false HN.out]; rfl, hw3⟩
      · go_wp2_with fail
        go_ret
        have E : l = m := by
          have := hf.out
          rwa [List.take_of_length_le (by omega), List.take_of_length_le (by rw [← H4.out]; omega)] at this
        exact ⟨by rw [decide_eq_true E]; rfl, hc⟩
  · have h4' : ((l.length : Int) != m.length) = true := by simp; omega
    go_enter Tryz.func49, Tryz.ntmps49
    go_wp2_with fail
    go_ret
    exact ⟨by rw [decide_eq_false (fun e => h4 (by rw [e]))]; rfl, Chg.refl _ _⟩
end Go.Proofs.YtmjpfoeaobdaeaaGreatDoor
namespace Go.Proofs.YtmjpfoeaobdaeaaGreatDoor
open Go.RowKit

def farV (l m : List ByteArray) : Value := .tuple #[.int .i64 (if checkedFault l m = 0 then (far l m : Int) else 0), errV (checkedFault l m)]
theorem far_any (l m : List ByteArray) (v u : Value) (w : World) (h : Rdv w Never v l) (g : Rdv w Never u m) :
    Calls Tryz.prog 43 #[v, u] w fun e w' => e = .returned (farV l m) ∧ Chg Never w w' := by
  by_cases hz : checkedFault l m = 0
  · have hlm := checkedFault_zero.1 hz
    go_enter Tryz.func43, Tryz.ntmps43
    go_wp2_with fail
    refine (checked_any l m _ _ _ h g).mono ?_
    rintro e w' ⟨rfl, rfl⟩
    rw [hz, errV_zero]
    have HZ := Lib.hid hz
    clear hz
    go_wp2_with fail
    refine (measure_any l m _ _ _ h g (linesFault_len hlm.1) (linesFault_len hlm.2)).mono ?_
    rintro e w1 ⟨rfl, hc, hF⟩
    have c0 : w1.cell? ⟨w.heap.size, 0, none⟩ = some (.int .i64 (far l m)) := by simpa using hF.cell (i := 0) (k := 0) (Nat.zero_le _) (Nat.zero_le _) (by omega)
    go_wp2_with fail
    go_ret2
    exact ⟨by rw [farV, if_pos HZ.out, HZ.out]; rfl, hc⟩
  · go_enter Tryz.func43, Tryz.ntmps43
    go_wp2_with fail
    refine (checked_any l m _ _ _ h g).mono ?_
    rintro e w' ⟨rfl, rfl⟩
    rw [errV_pos hz]
    go_wp2_with fail
    go_ret2
    exact ⟨by rw [farV, if_neg hz, errV_pos hz]; rfl, Chg.refl _ _⟩
end Go.Proofs.YtmjpfoeaobdaeaaGreatDoor
namespace Go.Proofs.YtmjpfoeaobdaeaaGreatDoor
open Go.RowKit

def SesAt (O : Nat → Prop) (w : World) (b : Nat) (m : Ses) : Prop := ∃ vo vn, Blk2 w b 33 vo vn ∧ Rdv w O vo m.old ∧ Rdv w O vn m.new
theorem Blk2.set0 {w : World} {B : Nat} {t : TypeId} {x y : Value} (h : Blk2 w B t x y) (u : Value) : Blk2 (w.setCell ⟨B, 0, none⟩ u) B t u y := by
  unfold Blk2 at *
  simp [World.setCell, Array.getElem?_modify, h]
theorem rdv_setO {α : Type} [Dat α] {w : World} {O : Nat → Prop} {v : Value} {x : α} (h : Rdv w O v x) {b : Nat} (hb : O b) (i : Nat) (u : Value) : Rdv (w.setCell ⟨b, i, none⟩ u) O v x :=
  h.keep (Chg.setCell (O := fun k => k = b) (Chg.refl _ w) (p := ⟨b, i, none⟩) (.inr rfl) u) (fun k _ e => by rw [e]; exact hb) (fun _ _ h => h)
theorem ses_set0 {O : Nat → Prop} {w : World} {b : Nat} {vo vn r : Value} {x y : List File} (hb : Blk2 w b 33 vo vn) (hr : Rdv w O r x) (hn : Rdv w O vn y) (hO : O b) : SesAt O (w.setCell ⟨b, 0, none⟩ r) b ⟨x, y⟩ :=
  ⟨r, vn, hb.set0 r, rdv_setO hr hO 0 r, rdv_setO hn hO 0 r⟩
theorem ses_set1 {O : Nat → Prop} {w : World} {b : Nat} {vo vn r : Value} {x y : List File} (hb : Blk2 w b 33 vo vn) (ho : Rdv w O vo x) (hr : Rdv w O r y) (hO : O b) : SesAt O (w.setCell ⟨b, 1, none⟩ r) b ⟨x, y⟩ :=
  ⟨vo, r, hb.set1 r, rdv_setO ho hO 1 r, rdv_setO hr hO 1 r⟩
theorem SesAt.never {O : Nat → Prop} {w w' : World} {b : Nat} {m : Ses} (h : SesAt O w b m) (hc : Chg Never w w') : SesAt O w' b m := by
  obtain ⟨vo, vn, h1, h2, h3⟩ := h
  exact ⟨vo, vn, h1.keep hc (fun x => x), h2.never hc, h3.never hc⟩
def ActPost (b : Nat) (O : Nat → Prop) (r : Ses × List UInt8) (bad : Bool) (w : World) (e : Ending) (w' : World) : Prop :=
  Chg (fun k => k = b) w w' ∧ SesAt O w' b r.1 ∧ e = if bad = true then .panicked unreadP else .returned (.string (toB r.2))
theorem wtest (x W : List UInt8) : ((toB x).toList == W) = decide (x = W) := by
  rw [Lib.toList_data, toB_data]
  by_cases h : x = W
  · subst h; simp
  · rw [decide_eq_false h]; simpa using h
def farS (m : Ses) (p : ByteArray) : List UInt8 := if pathFault p = 0 then Lib.itoa (far (linesIn m.old p) (linesIn m.new p)) ++ [10] else toldS [] (pathFault p)
def sameS (m : Ses) : List UInt8 := if m.old = m.new then yesL else noL
structure ActIn (b : Nat) (O : Nat → Prop) (m : Ses) (w : World) (vo vn : Value) (mx : Int) : Prop where
  box : Blk2 w b 33 vo vn
  old : Rdv w O vo m.old
  new : Rdv w O vn m.new
  lt : ∀ k, O k → k < w.heap.size
  ob : O b
  ok : SesOk m
  b9 : 9 ≤ b
  gl : Globs w mx
  er : w.cell? ⟨1, 0, none⟩ = some errT
set_option maxHeartbeats 4000000 in
set_option maxRecDepth 100000 in
theorem act_drop (b : Nat) (O : Nat → Prop) (m : Ses) (p : ByteArray) (ws : Value) (w : World) (vo vn : Value) (mx : Int) (h : ActIn b O m w vo vn mx) (hws : Rdv w Never ws [toB dropW, p]) :
    Calls Tryz.prog 22 #[.pointer (some ⟨b, 0, none⟩), ws] w (ActPost b O (⟨m.old, dropT m.new p⟩, toldS okW (getFault m.new p)) false w) := by
  obtain ⟨c0, c1⟩ := h.box.cell
  have hb := h.box
  have ho := h.old
  have hn := h.new
  have hOb := h.ob
  have hOl := h.lt
  have hok := h.ok
  have hb9 := h.b9
  have hg := h.gl
  have he := h.er
  have hon : Rdv w Never vo m.old := ho.sub (fun _ _ h => h.elim)
  have hnn : Rdv w Never vn m.new := hn.sub (fun _ _ h => h.elim)
  obtain ⟨oa, oc, rfl, _, _, _⟩ := rdv_slice ho
  obtain ⟨na, nc, rfl, _, _, _⟩ := rdv_slice hn
  clear h
  obtain ⟨wa, wc, rfl, wz1, wz2, wz3⟩ := rdv_slice hws
  obtain ⟨wb, woff, rfl, _, _, k0, _⟩ := elems_str wz3 (i := 0) rfl
  obtain ⟨wb', woff', hwe, _, _, k1, hps⟩ := elems_str wz3 (i := 1) rfl
  injection hwe with hwe
  injection hwe with hwe1 hwe2 _
  subst hwe1 hwe2
  clear wz3 hws
  simp only [List.length_cons, List.length_nil, Nat.add_zero, Nat.zero_add, Nat.reduceAdd] at k0 k1 wz1 ⊢
  have t1 : ((toB dropW).toList == [100, 114, 111, 112]) = true := by rw [wtest]; decide
  have t2 : ((toB dropW).toList == [100, 105, 102, 102]) = false := by rw [wtest]; decide
  have t3 : ((toB dropW).toList == [102, 97, 114]) = false := by rw [wtest]; decide
  have t4 : ((toB dropW).toList == [103, 111]) = false := by rw [wtest]; decide
  have t5 : ((toB dropW).toList == [115, 97, 109, 101]) = false := by rw [wtest]; decide
  have hcd : Chg Never w w.drew := (Chg.refl Never w).drew
  have hnd := hnn.never hcd
  have hob := ho.never hcd
  generalize toB dropW = X at k0 t1 t2 t3 t4 t5
  have HDT : Hid (dropT m.new p = if getFault m.new p = 0 then dropAt m.new (posOf m.new p) else m.new) := rfl
  have HDR : Hid (dropR m.new p = if getFault m.new p = 0 then dropAt m.new (posOf m.new p) else []) := rfl
  go_enter Tryz.func22, Tryz.ntmps22
  go_wp2_with fail
  refine wp_region_held_drew (S := fun w' => Chg Never w w' ∧ w'.cell? ⟨b, 1, none⟩ = some (.slice na m.new.length nc) ∧ w'.cell? ⟨wb, woff + 1, none⟩ = some (.string p)) (by kernel_rfl) ⟨hcd, c1, k1⟩ (fun hH => ?_)
  refine' tk 0 ?_
  refine' tk 1 ?_
  refine' tk 2 ?_
  refine' tk 3 ?_
  refine' tk 4 ?_
  refine' tk 5 ?_
  refine' tk 6 ?_
  refine' tk 7 ?_
  refine wpAnyH_ready (rs := [8]) (by kernel_rfl) (by simp) ?_
  refine AllReadyH.cons rfl (fun K hK => ?_) AllReadyH.nil
  go_simp
  (go_at_call 40; refine (tree_drop_any m.new p _ _ hnd mx hg.ml).mono ?_; rintro e w1 ⟨r1, rfl, hc1, hr1⟩; have hw1 := hcd.trans hc1; have hS2 : Chg Never w w1 ∧ w1.cell? ⟨b, 1, none⟩ = some (.slice na m.new.length nc) ∧ w1.cell? ⟨wb, woff + 1, none⟩ = some (.string p) := ⟨hw1, hw1.cellNever c1, hw1.cellNever k1⟩; obtain ⟨ra, rc, rfl, _, _, _⟩ := rdv_slice hr1; clear hH)
  try go_wp2_with fail
  refine hK.out _ _ ?_ (fun hH => ?_)
  · assumption
  clear hK K
  try simp only [Act.put, List.setIfInBounds_toArray, List.set_cons_zero, List.set_cons_succ]
  refine' tk 9 ?_
  refine' tk 10 ?_
  refine' tk 11 ?_
  refine' tk 12 ?_
  refine' tk 13 ?_
  refine wpAnyH_done (by kernel_rfl) ?_ _
  have hr := hr1.sub (O' := O) (fun k _ hk => hOl k hk)
  have hb1 := hb.keep hw1 (fun x => x)
  have ho1 := ho.never hw1
  have hn1 := hn.never hw1
  generalize (dropR m.new p).length = nn at hr
  clear hS2 hr1 hnd hob hnn hon
  by_cases z : getFault m.new p = 0
  · have Z := Lib.hid z
    have HT2 : Hid (dropT m.new p = dropR m.new p) := by rw [Hid, HDT.out, HDR.out, if_pos z, if_pos z]
    rw [z, errV_zero]
    have q1 := hw1.cellNever c1
    have f1 := hb1.free 1
    have hcs : Chg (fun k => k = b) w (w1.setCell ⟨b, 1, none⟩ (.slice ra nn rc)) := Chg.setCell (O := fun k => k = b) (hw1.mono (fun _ _ h => h.elim)) (p := ⟨b, 1, none⟩) (.inr rfl) _
    have he4 := hcs.cell he (by show ¬ 1 = b; omega)
    have hses := ses_set1 hb1 ho1 hr hOb
    clear z HDT HDR
    go_wp2_with fail
    refine (rtold_any okW (by decide) 0 _ he4).mono ?_
    rintro e w5 ⟨rfl, hc5⟩
    go_wp2_with fail
    go_ret
    exact ⟨hcs.trans (hc5.mono (fun _ _ h => h.elim)), by rw [HT2.out]; exact hses.never hc5, by rw [Z.out]; rfl⟩
  · have Z := Lib.hid z
    have HT2 : Hid (dropT m.new p = m.new) := by rw [Hid, HDT.out, if_neg z]
    have he4 := hw1.cellNever he
    have hi := rtold_any okW (by decide) (getFault m.new p) _ he4
    obtain ⟨E, hE⟩ : ∃ E, errV (getFault m.new p) = E := ⟨_, rfl⟩
    rw [hE] at hi ⊢
    obtain ⟨T, P, rfl⟩ : ∃ T P, E = .iface T P := ⟨_, _, by rw [← hE, errV_pos z]⟩
    clear z HDT HDR hE
    go_wp2_with fail
    refine hi.mono ?_
    rintro e w5 ⟨rfl, hc5⟩
    go_wp2_with fail
    go_ret
    exact ⟨(hw1.trans hc5).mono (fun _ _ h => h.elim), by rw [HT2.out]; exact ⟨_, _, hb1.keep hc5 (fun x => x), ho1.never hc5, hn1.never hc5⟩, rfl⟩
end Go.Proofs.YtmjpfoeaobdaeaaGreatDoor
namespace Go.Proofs.YtmjpfoeaobdaeaaGreatDoor
open Go.RowKit

set_option maxHeartbeats 1000000 in
set_option maxRecDepth 100000 in
theorem words_any (s : ByteArray) (w : World) (hs : s.size ≤ 100000000) :
    Calls Tryz.prog 23 #[.string s] w fun e w' => ∃ r, e = .returned r ∧ Chg Never w w' ∧ Rdv w' (Old w.heap.size) r ((parts 32 s.data.toList).map toB) := by
  go_enter Tryz.func23, Tryz.ntmps23
  go_wp2_with fail
  go_loopw [3, 4, 5] (fun o fr i wr => ∃ (q k : Nat) (L : List ByteArray), fr = .int .i64 q ∧ i = .int .i64 k ∧ q ≤ k ∧ k ≤ s.size ∧ Chg Never w wr ∧ Own 9 wr (Old w.heap.size) o L ∧ L.length ≤ k ∧ Hid (PartsInv 32 s q k L)) (fun _ _ i _ => s.size - (intOf i).toNat)
  case atStart => exact ⟨0, 0, [], rfl, rfl, Nat.le_refl _, Nat.zero_le _, Chg.refl _ _, own_nil _ _ _, Nat.le_refl _, pinv_start _ _⟩
  case round =>
    obtain ⟨q, k, L, rfl, rfl, hqk, hk, hc, hown, hL, hP⟩ := hrel
    by_cases hlt : k < s.size
    · have HB := Lib.hid (byte_at hlt)
      cases hq : (((s[k]'hlt).toNat : Int) == 32) with
      | true =>
        have HC : Hid (PartsInv 32 s (k + 1) (k + 1) (L ++ [s.extract q k])) := hP.out.cut hqk (by rw [HB.out, byte_eq (d := 32) hq rfl])
        have hes : (s.extract q k).size ≤ maxLen := by rw [ByteArray.size_extract]; unfold maxLen; omega
        go_wp2_with (at_builtin; refine wpList_push (by rfl) _ _ 25 (by rfl) elemOk_parts (O := Old w.heap.size) (l := L) (y := s.extract q k) (by rfl) (by rfl) (by simp) hown ⟨rfl, hes⟩ (old_lt hc) (by omega) ?_; intro v' w2 hown2 hc2 _)
        have hc3 := own_step hc hown hc2
        clear hc2 hown hc
        go_wp2_with fail
        go_roundw
        case rel => exact ⟨k + 1, k + 1, _, by go_num, by go_num, Nat.le_refl _, by omega, hc3, hown2, by simp; omega, HC⟩
        case measure => simp [intOf] <;> omega
      | false =>
        have HC : Hid (PartsInv 32 s q (k + 1) L) := hP.out.step HB.out (byte_ne hq rfl)
        go_wp2_with fail
        go_roundw
        case rel => exact ⟨q, k + 1, L, rfl, by go_num, by omega, by omega, hc, hown, by omega, HC⟩
        case measure => simp [intOf] <;> omega
    · obtain rfl : k = s.size := by omega
      have HC := Lib.hid hP.out.fin
      have hes : (s.extract q s.size).size ≤ maxLen := by rw [ByteArray.size_extract]; unfold maxLen; omega
      go_wp2_with (at_builtin; refine wpList_push (by rfl) _ _ 25 (by rfl) elemOk_parts (O := Old w.heap.size) (l := L) (y := s.extract q s.size) (by rfl) (by rfl) (by simp) hown ⟨rfl, hes⟩ (old_lt hc) (by omega) ?_; intro v' w2 hown2 hc2 _)
      have hc3 := own_step hc hown hc2
      clear hc2 hown hc
      go_wp2_with fail
      go_ret
      exact ⟨_, rfl, hc3, by rw [HC.out]; exact hown2.rdv⟩

end Go.Proofs.YtmjpfoeaobdaeaaGreatDoor
namespace Go.Proofs.YtmjpfoeaobdaeaaGreatDoor
open Go.RowKit

def NoStr (w : World) (b : Nat) : Prop := ∀ (i : Nat) (x : ByteArray), w.cell? ⟨b, i, none⟩ ≠ some (.string x)
theorem nostr_box {w : World} {B : Nat} {t : TypeId} {a c : Option Addr} {n k n' k' : Nat} (h : Blk2 w B t (.slice a n k) (.slice c n' k')) : NoStr w B := by
  intro i x e
  unfold Blk2 at h
  unfold World.cell? at e
  rw [h] at e
  match i with
  | 0 => simp at e
  | 1 => simp at e
  | i + 2 => simp at e
theorem strs_away {w : World} {O : Nat → Prop} {b : Nat} {v : Value} {l : List ByteArray} (h : Rdv w O v l) (hn : NoStr w b) : Rdv w (fun k => k = b) v l := by
  obtain ⟨a, cap, rfl, h1, h2, h3⟩ := rdv_slice h
  refine ⟨a, cap, rfl, h1, h2, ?_⟩
  intro i x hx
  obtain ⟨b', off, es, ha, hO, hcs, rfl, hs⟩ := h3 i x hx
  exact ⟨b', off, _, ha, fun e => hn _ x (by rw [← e]; exact hcs 0 _ rfl), hcs, rfl, hs⟩
theorem files_away {w : World} {O : Nat → Prop} {b : Nat} {v : Value} {t : List File} (h : Rdv w O v t) (hn : NoStr w b) : Rdv w (fun k => k = b) v t := by
  obtain ⟨a, cap, rfl, h1, h2, h3⟩ := rdv_slice h
  refine ⟨a, cap, rfl, h1, h2, ?_⟩
  intro i x hx
  obtain ⟨b', off, es, ha, hO, hcs, u, rfl, hp, hr⟩ := h3 i x hx
  exact ⟨b', off, _, ha, fun e => hn _ x.path (by rw [← e]; exact hcs 0 _ rfl), hcs, u, rfl, hp, strs_away hr hn⟩
def DocAt (w : World) (b : Nat) (m : Ses) : Prop := ∃ vo vn, Blk2 w b 47 vo vn ∧ Rdv w Never vo m.old ∧ Rdv w Never vn m.new
theorem DocAt.never {w w' : World} {b : Nat} {m : Ses} (h : DocAt w b m) (hc : Chg Never w w') : DocAt w' b m := by
  obtain ⟨vo, vn, h1, h2, h3⟩ := h
  exact ⟨vo, vn, h1.keep hc (fun x => x), h2.never hc, h3.never hc⟩
theorem DocAt.nostr {w : World} {b : Nat} {m : Ses} (h : DocAt w b m) : NoStr w b := by
  obtain ⟨vo, vn, h1, h2, h3⟩ := h
  obtain ⟨_, _, rfl, _⟩ := rdv_slice h2
  obtain ⟨_, _, rfl, _⟩ := rdv_slice h3
  exact nostr_box h1
theorem away_set {w : World} {b i : Nat} {u v : Value} {t : List File} (h : Rdv w Never v t) (hn : NoStr w b) : Rdv (w.setCell ⟨b, i, none⟩ u) Never v t :=
  (rdv_setO (files_away h hn) (b := b) rfl i u).sub (fun _ _ h => h.elim)
theorem doc_set0 {w : World} {b : Nat} {m : Ses} {r : Value} {x : List File} (h : DocAt w b m) (hr : Rdv w Never r x) : DocAt (w.setCell ⟨b, 0, none⟩ r) b ⟨x, m.new⟩ := by
  have hn := h.nostr
  obtain ⟨vo, vn, h1, h2, h3⟩ := h
  exact ⟨r, vn, h1.set0 r, away_set hr hn, away_set h3 hn⟩
theorem doc_set1 {w : World} {b : Nat} {m : Ses} {r : Value} {x : List File} (h : DocAt w b m) (hr : Rdv w Never r x) : DocAt (w.setCell ⟨b, 1, none⟩ r) b ⟨m.old, x⟩ := by
  have hn := h.nostr
  obtain ⟨vo, vn, h1, h2, h3⟩ := h
  exact ⟨vo, r, h1.set1 r, away_set h2 hn, away_set hr hn⟩
theorem set_chg {w w1 : World} {b i : Nat} {u : Value} (hc : Chg Never w w1) : Chg (fun k => k = b) w (w1.setCell ⟨b, i, none⟩ u) := Chg.setCell (O := fun k => k = b) (hc.mono (fun _ _ h => h.elim)) (p := ⟨b, i, none⟩) (.inr rfl) _
theorem never_b {w w1 : World} {b : Nat} (hc : Chg Never w w1) : Chg (fun k => k = b) w w1 := hc.mono (fun _ _ h => h.elim)
def DocPost (b : Nat) (r : Ses × List UInt8) (w : World) (e : Ending) (w' : World) : Prop := Chg (fun k => k = b) w w' ∧ DocAt w' b r.1 ∧ e = .returned (.string (toB r.2))
theorem parts_ne1 {s a b W : List UInt8} {q : List (List UInt8)} (hW : parts 32 s = a :: b :: q) (h : ∀ x ∈ W, x ≠ 32) : s ≠ W := by
  rintro rfl
  rw [parts_none h] at hW
  cases hW
theorem parts_ne2 {s a W : List UInt8} {q : List (List UInt8)} (hW : parts 32 s = a :: q) (h : ∀ x ∈ W, x ≠ 32) (ha : a :: q ≠ [W]) : s ≠ W := by
  rintro rfl
  rw [parts_none h] at hW
  exact ha hW.symm
theorem wfalse {x W : List UInt8} (h : x ≠ W) : ((toB x).toList == W) = false := by rw [wtest]; exact decide_eq_false h
theorem wtrue {W : List UInt8} : ((toB W).toList == W) = true := by rw [wtest]; exact decide_eq_true rfl
end Go.Proofs.YtmjpfoeaobdaeaaGreatDoor
namespace Go.Proofs.YtmjpfoeaobdaeaaGreatDoor
open Go.RowKit

set_option maxHeartbeats 4000000 in
set_option maxRecDepth 100000 in
theorem doc_back (b : Nat) (m : Ses) (s : List UInt8) (w : World) (hd : DocAt w b m) (hs : s.length ≤ 100000) (hW : parts 32 s = [backW]) :
    Calls Tryz.prog 15 #[.pointer (some ⟨b, 0, none⟩), .string (toB s)] w (DocPost b (⟨m.new, m.old⟩, okL) w) := by
  have hns := hd.nostr
  obtain ⟨vo, vn, hb, ho, hn⟩ := hd
  obtain ⟨oa, oc, rfl, _, _, _⟩ := rdv_slice ho
  obtain ⟨na, nc, rfl, _, _, _⟩ := rdv_slice hn
  have HW := Lib.hid hW
  have s1 : ((toB s).toList == [98, 97, 99, 107]) = true := by rw [(word_one (show ∀ x ∈ backW, x ≠ 32 by decide)).1 hW]; exact wtrue
  clear hW
  go_enter Tryz.func15, Tryz.ntmps15
  go_wp2_with fail
  refine (words_any (toB s) w (by rw [toB_sz]; omega)).mono ?_
  rintro e w1 ⟨ws, rfl, hc1, hws⟩
  rw [toB_data, HW.out] at hws
  have hb1 := hb.keep hc1 (fun x => x)
  have ho1 := ho.never hc1
  have hn1 := hn.never hc1
  obtain ⟨c0, c1⟩ := hb1.cell
  clear hb ho hn
  obtain ⟨wa, wc, rfl, _, _, _⟩ := rdv_slice hws
  clear hws
  simp only [List.map_cons, List.map_nil, List.length_cons, List.length_nil, Nat.add_zero, Nat.zero_add, Nat.reduceAdd]
  have f0 := hb1.free 0
  have f1 := hb1.free 1
  have hd1 : DocAt w1 b m := ⟨_, _, hb1, ho1, hn1⟩
  have hA := doc_set0 hd1 hn1
  have hc2 : Chg (fun k => k = b) w (w1.setCell ⟨b, 0, none⟩ (.slice na m.new.length nc)) := set_chg hc1
  have hB := doc_set1 hA (away_set (i := 0) (u := .slice na m.new.length nc) ho1 hd1.nostr)
  have hc3 : Chg (fun k => k = b) w ((w1.setCell ⟨b, 0, none⟩ (.slice na m.new.length nc)).setCell ⟨b, 1, none⟩ (.slice oa m.old.length oc)) := Chg.setCell (O := fun k => k = b) hc2 (p := ⟨b, 1, none⟩) (.inr rfl) _
  clear hA hc2 ho1 hn1 hd1
  go_wp2_with fail
  go_ret
  exact ⟨hc3, hB, rfl⟩
end Go.Proofs.YtmjpfoeaobdaeaaGreatDoor
namespace Go.Proofs.YtmjpfoeaobdaeaaGreatDoor
open Go.RowKit

set_option maxHeartbeats 4000000 in
set_option maxRecDepth 100000 in
theorem doc_bad (b : Nat) (m : Ses) (s : List UInt8) (w : World) (hd : DocAt w b m) (hs : s.length ≤ 100000) {a : List UInt8} {q : List (List UInt8)} (hW : parts 32 s = a :: q) (h1 : ¬ (3 ≤ (a :: q).length ∧ (a = oldW ∨ a = newW))) (h2 : manyW a ≠ (a :: q).length) :
    Calls Tryz.prog 15 #[.pointer (some ⟨b, 0, none⟩), .string (toB s)] w (DocPost b (m, badL) w) := by
  have hns := hd.nostr
  obtain ⟨vo, vn, hb, ho, hn⟩ := hd
  obtain ⟨oa, oc, rfl, _, _, _⟩ := rdv_slice ho
  obtain ⟨na, nc, rfl, _, _, _⟩ := rdv_slice hn
  have HW := Lib.hid hW
  have s1 : ((toB s).toList == [98, 97, 99, 107]) = false := wfalse (parts_ne2 hW (by decide) (fun e => h2 (by injection e with x y; subst x y; decide)))
  have s2 : ((toB s).toList == [115, 97, 109, 101]) = false := wfalse (parts_ne2 hW (by decide) (fun e => h2 (by injection e with x y; subst x y; decide)))
  clear hW
  go_enter Tryz.func15, Tryz.ntmps15
  go_wp2_with fail
  refine (words_any (toB s) w (by rw [toB_sz]; omega)).mono ?_
  rintro e w1 ⟨ws, rfl, hc1, hws⟩
  rw [toB_data, HW.out] at hws
  have hb1 := hb.keep hc1 (fun x => x)
  have ho1 := ho.never hc1
  have hn1 := hn.never hc1
  obtain ⟨c0, c1⟩ := hb1.cell
  clear hb ho hn
  obtain ⟨wa, wc, rfl, wz1, wz2, wz3⟩ := rdv_slice hws
  obtain ⟨wb, woff, rfl, _, _, k0, _⟩ := elems_str wz3 (i := 0) rfl
  clear wz3 hws
  simp only [Nat.add_zero] at k0
  have hlen : ((a :: q).map toB).length = (a :: q).length := by simp
  rw [hlen] at wz1 ⊢
  generalize hnn : (a :: q).length = n at h1 h2 wz1 ⊢
  have hn0 : 1 ≤ n := by rw [← hnn]; simp
  clear hnn hlen HW
  unfold maxLen at wz2
  by_cases n3 : 3 ≤ n
  · have tn : decide ((3 : Int) ≤ (n : Int)) = true := decide_eq_true (by omega)
    have o1 : ((toB a).toList == [111, 108, 100]) = false := wfalse (fun e => h1 ⟨n3, .inl e⟩)
    have o2 : ((toB a).toList == [110, 101, 119]) = false := wfalse (fun e => h1 ⟨n3, .inr e⟩)
    clear h1
    by_cases e1 : a = dropW
    · have hm2 : manyW a = 2 := by rw [e1]; decide
      have tn2 : ((n : Int) == 2) = false := beq_eq_false_iff_ne.2 (fun q => h2 (by omega))
      have t1 : ((toB a).toList == [100, 114, 111, 112]) = true := by rw [wtest, e1]; decide
      have t2 : ((toB a).toList == [100, 105, 102, 102]) = false := by rw [wtest, e1]; decide
      have t3 : ((toB a).toList == [102, 97, 114]) = false := by rw [wtest, e1]; decide
      have t4 : ((toB a).toList == [103, 111]) = false := by rw [wtest, e1]; decide
      clear hm2
      clear e1 h2 n3
      generalize toB a = X at k0 t1 t2 t3 t4 o1 o2
      go_wp2_with fail
      go_ret
      exact ⟨never_b hc1, ⟨_, _, hb1, ho1, hn1⟩, rfl⟩
    by_cases e2 : a = diffW
    · have hm2 : manyW a = 2 := by rw [e2]; decide
      have tn2 : ((n : Int) == 2) = false := beq_eq_false_iff_ne.2 (fun q => h2 (by omega))
      have t1 : ((toB a).toList == [100, 114, 111, 112]) = false := by rw [wtest, e2]; decide
      have t2 : ((toB a).toList == [100, 105, 102, 102]) = true := by rw [wtest, e2]; decide
      have t3 : ((toB a).toList == [102, 97, 114]) = false := by rw [wtest, e2]; decide
      have t4 : ((toB a).toList == [103, 111]) = false := by rw [wtest, e2]; decide
      clear hm2
      clear e1 e2 h2 n3
      generalize toB a = X at k0 t1 t2 t3 t4 o1 o2
      go_wp2_with fail
      go_ret
      exact ⟨never_b hc1, ⟨_, _, hb1, ho1, hn1⟩, rfl⟩
    by_cases e3 : a = farW
    · have hm2 : manyW a = 2 := by rw [e3]; decide
      have tn2 : ((n : Int) == 2) = false := beq_eq_false_iff_ne.2 (fun q => h2 (by omega))
      have t1 : ((toB a).toList == [100, 114, 111, 112]) = false := by rw [wtest, e3]; decide
      have t2 : ((toB a).toList == [100, 105, 102, 102]) = false := by rw [wtest, e3]; decide
      have t3 : ((toB a).toList == [102, 97, 114]) = true := by rw [wtest, e3]; decide
      have t4 : ((toB a).toList == [103, 111]) = false := by rw [wtest, e3]; decide
      clear hm2
      clear e1 e2 e3 h2 n3
      generalize toB a = X at k0 t1 t2 t3 t4 o1 o2
      go_wp2_with fail
      go_ret
      exact ⟨never_b hc1, ⟨_, _, hb1, ho1, hn1⟩, rfl⟩
    by_cases e4 : a = goW
    · have hm2 : manyW a = 2 := by rw [e4]; decide
      have tn2 : ((n : Int) == 2) = false := beq_eq_false_iff_ne.2 (fun q => h2 (by omega))
      have t1 : ((toB a).toList == [100, 114, 111, 112]) = false := by rw [wtest, e4]; decide
      have t2 : ((toB a).toList == [100, 105, 102, 102]) = false := by rw [wtest, e4]; decide
      have t3 : ((toB a).toList == [102, 97, 114]) = false := by rw [wtest, e4]; decide
      have t4 : ((toB a).toList == [103, 111]) = true := by rw [wtest, e4]; decide
      clear hm2
      clear e1 e2 e3 e4 h2 n3
      generalize toB a = X at k0 t1 t2 t3 t4 o1 o2
      go_wp2_with fail
      go_ret
      exact ⟨never_b hc1, ⟨_, _, hb1, ho1, hn1⟩, rfl⟩
    have t1 : ((toB a).toList == [100, 114, 111, 112]) = false := wfalse e1
    have t2 : ((toB a).toList == [100, 105, 102, 102]) = false := wfalse e2
    have t3 : ((toB a).toList == [102, 97, 114]) = false := wfalse e3
    have t4 : ((toB a).toList == [103, 111]) = false := wfalse e4
    clear e1 e2 e3 e4 h2 n3
    generalize toB a = X at k0 t1 t2 t3 t4 o1 o2
    go_wp2_with fail
    go_ret
    exact ⟨never_b hc1, ⟨_, _, hb1, ho1, hn1⟩, rfl⟩
  · have tn : decide ((3 : Int) ≤ (n : Int)) = false := decide_eq_false (by omega)
    clear h1
    by_cases e1 : a = dropW
    · have hm2 : manyW a = 2 := by rw [e1]; decide
      have tn2 : ((n : Int) == 2) = false := beq_eq_false_iff_ne.2 (fun q => h2 (by omega))
      have t1 : ((toB a).toList == [100, 114, 111, 112]) = true := by rw [wtest, e1]; decide
      have t2 : ((toB a).toList == [100, 105, 102, 102]) = false := by rw [wtest, e1]; decide
      have t3 : ((toB a).toList == [102, 97, 114]) = false := by rw [wtest, e1]; decide
      have t4 : ((toB a).toList == [103, 111]) = false := by rw [wtest, e1]; decide
      clear hm2
      clear e1 h2 n3
      generalize toB a = X at k0 t1 t2 t3 t4
      go_wp2_with fail
      go_ret
      exact ⟨never_b hc1, ⟨_, _, hb1, ho1, hn1⟩, rfl⟩
    by_cases e2 : a = diffW
    · have hm2 : manyW a = 2 := by rw [e2]; decide
      have tn2 : ((n : Int) == 2) = false := beq_eq_false_iff_ne.2 (fun q => h2 (by omega))
      have t1 : ((toB a).toList == [100, 114, 111, 112]) = false := by rw [wtest, e2]; decide
      have t2 : ((toB a).toList == [100, 105, 102, 102]) = true := by rw [wtest, e2]; decide
      have t3 : ((toB a).toList == [102, 97, 114]) = false := by rw [wtest, e2]; decide
      have t4 : ((toB a).toList == [103, 111]) = false := by rw [wtest, e2]; decide
      clear hm2
      clear e1 e2 h2 n3
      generalize toB a = X at k0 t1 t2 t3 t4
      go_wp2_with fail
      go_ret
      exact ⟨never_b hc1, ⟨_, _, hb1, ho1, hn1⟩, rfl⟩
    by_cases e3 : a = farW
    · have hm2 : manyW a = 2 := by rw [e3]; decide
      have tn2 : ((n : Int) == 2) = false := beq_eq_false_iff_ne.2 (fun q => h2 (by omega))
      have t1 : ((toB a).toList == [100, 114, 111, 112]) = false := by rw [wtest, e3]; decide
      have t2 : ((toB a).toList == [100, 105, 102, 102]) = false := by rw [wtest, e3]; decide
      have t3 : ((toB a).toList == [102, 97, 114]) = true := by rw [wtest, e3]; decide
      have t4 : ((toB a).toList == [103, 111]) = false := by rw [wtest, e3]; decide
      clear hm2
      clear e1 e2 e3 h2 n3
      generalize toB a = X at k0 t1 t2 t3 t4
      go_wp2_with fail
      go_ret
      exact ⟨never_b hc1, ⟨_, _, hb1, ho1, hn1⟩, rfl⟩
    by_cases e4 : a = goW
    · have hm2 : manyW a = 2 := by rw [e4]; decide
      have tn2 : ((n : Int) == 2) = false := beq_eq_false_iff_ne.2 (fun q => h2 (by omega))
      have t1 : ((toB a).toList == [100, 114, 111, 112]) = false := by rw [wtest, e4]; decide
      have t2 : ((toB a).toList == [100, 105, 102, 102]) = false := by rw [wtest, e4]; decide
      have t3 : ((toB a).toList == [102, 97, 114]) = false := by rw [wtest, e4]; decide
      have t4 : ((toB a).toList == [103, 111]) = true := by rw [wtest, e4]; decide
      clear hm2
      clear e1 e2 e3 e4 h2 n3
      generalize toB a = X at k0 t1 t2 t3 t4
      go_wp2_with fail
      go_ret
      exact ⟨never_b hc1, ⟨_, _, hb1, ho1, hn1⟩, rfl⟩
    have t1 : ((toB a).toList == [100, 114, 111, 112]) = false := wfalse e1
    have t2 : ((toB a).toList == [100, 105, 102, 102]) = false := wfalse e2
    have t3 : ((toB a).toList == [102, 97, 114]) = false := wfalse e3
    have t4 : ((toB a).toList == [103, 111]) = false := wfalse e4
    clear e1 e2 e3 e4 h2 n3
    generalize toB a = X at k0 t1 t2 t3 t4
    go_wp2_with fail
    go_ret
    exact ⟨never_b hc1, ⟨_, _, hb1, ho1, hn1⟩, rfl⟩
end Go.Proofs.YtmjpfoeaobdaeaaGreatDoor
