/-
  UnifiedIs holds, tied to the program's text: for all arguments of bulk at most 1048576 the law answers true, and its arguments read as before.
-/
import Derived.Test.YtmojaahkcpgfkaaGreatDoorPackUi8
import Derived.Test.YtmojaahkcpgfkaaGreatDoorPackUi9
import Derived.Test.YtmojaahkcpgfkaaGreatDoorPackUi7
import Derived.Test.YtmojaahkcpgfkaaGreatDoorPackUi3
import Derived.Test.YtmojaahkcpgfkaaGreatDoorPackUi2
import Derived.Test.YtmojaahkcpgfkaaGreatDoorPackUi5
import Derived.Test.YtmojaahkcpgfkaaGreatDoorPackUi1
namespace Go.Proofs.YtmojaahkcpgfkaaGreatDoor
open Go.RowKit

theorem rh_bad {s z : List UInt8} {I : List (List UInt8)} {hs : List Hunk} {j : Nat} (h : s.length ≤ 400000) (hp : parts 10 s = I ++ [z]) (ht : refTake I 0 [] 0 0 = (hs, j, false)) : parseU s = ([], j, 5) := by
  rw [← refHunks_eq]
  unfold refHunks
  rw [if_neg (by omega), hp, List.dropLast_concat, ht]
theorem rh_less {s z : List UInt8} {I : List (List UInt8)} {hs : List Hunk} {j : Nat} (h : s.length ≤ 400000) (hp : parts 10 s = I ++ [z]) (ht : refTake I 0 [] 0 0 = (hs, j, true)) (hj : j < I.length) : parseU s = ([], j, 5) := by
  rw [← refHunks_eq]
  unfold refHunks
  rw [if_neg (by omega), hp, List.dropLast_concat, ht]
  simp only
  rw [if_pos (by rw [List.length_append]; simp; omega)]
theorem rh_last {s z : List UInt8} {I : List (List UInt8)} {hs : List Hunk} {j : Nat} (h : s.length ≤ 400000) (hp : parts 10 s = I ++ [z]) (ht : refTake I 0 [] 0 0 = (hs, j, true)) (hj : I.length ≤ j) (hz : z ≠ []) : parseU s = ([], I.length, 5) := by
  rw [← refHunks_eq]
  unfold refHunks
  rw [if_neg (by omega), hp, List.dropLast_concat, ht]
  simp only
  rw [if_neg (by rw [List.length_append]; simp; omega), if_pos (by simpa using hz), List.length_append]
  rfl
theorem rh_fine {s : List UInt8} {I : List (List UInt8)} {hs : List Hunk} {j : Nat} (h : s.length ≤ 400000) (hp : parts 10 s = I ++ [[]]) (ht : refTake I 0 [] 0 0 = (hs, j, true)) (hj : I.length ≤ j) : parseU s = if (hunksFault hs).2 ≠ 0 then ([], 0, (hunksFault hs).2) else (hs, 0, 0) := by
  rw [← refHunks_eq]
  unfold refHunks
  rw [if_neg (by omega), hp, List.dropLast_concat, ht]
  simp only
  rw [if_neg (by rw [List.length_append]; simp; omega), if_neg (by simp)]
set_option maxHeartbeats 2000000 in
set_option maxRecDepth 100000 in
theorem refHunksOf_any (s : ByteArray) (w : World) (hs : s.size ≤ 100000000) :
    Calls Tryz.prog 10 #[.string s] w fun e w' => ∃ r, e = .returned (.tuple #[r, .int .i64 ((parseU s.data.toList).2.1 : Nat), .int .i64 (parseU s.data.toList).2.2]) ∧ Chg Never w w' ∧ Rdv w' Never r (parseU s.data.toList).1 := by
  have hsz := Lib.size_eq s
  by_cases hl : 400000 < s.size
  · have HR := Lib.hid (pu_long (s := s.data.toList) (by omega))
    clear hsz
    go_enter Tryz.func10, Tryz.ntmps10
    go_wp2_with fail
    go_ret3
    exact ⟨_, by rw [HR.out]; rfl, Chg.refl _ _, by rw [HR.out]; exact rdv_nil _ _⟩
  · obtain ⟨I, z, hIz⟩ := last_of (parts_ne 10 s.data.toList)
    have hcnt := parts_count 10 s.data.toList
    have hpm := parts_mem 10 s.data.toList
    have HIZ := Lib.hid hIz
    have hIl : I.length ≤ 1000000 := by
      rw [hIz, List.length_append] at hcnt
      have := hcnt
      simp only [List.length_cons, List.length_nil] at hcnt
      omega
    have hIs : Hid (∀ x ∈ I.map toB, x.size ≤ 1000000000) := by
      intro x hx
      obtain ⟨y, hy, rfl⟩ := List.mem_map.1 hx
      have := hpm y (by rw [hIz]; exact List.mem_append_left _ hy)
      rw [toB_size']
      omega
    have hl4 : Hid (s.data.toList.length ≤ 400000) := by rw [Hid]; omega
    have hP := refParts_any s w hs
    rw [hIz, List.map_append] at hP
    have HP := Lib.hid hP
    have hLI : Hid ((I.map toB).length = I.length) := by rw [Hid, List.length_map]
    have hbL := linesB_toB I
    clear hP hIz hcnt hpm hsz
    go_enter Tryz.func10, Tryz.ntmps10
    go_wp2_with fail
    refine HP.out.mono ?_
    rintro e w1 ⟨r, rfl, hc1, hR0⟩
    have hR0 := hR0.sub (O' := Never) (fun _ _ h => h.elim)
    have hNL : (I.map toB ++ [z].map toB).length = I.length + 1 := by simp
    obtain ⟨n, hn⟩ : ∃ n, I.length = n := ⟨_, rfl⟩
    have HN := Lib.hid hn
    rw [hn] at hLI hNL hIl
    generalize I.map toB = L at hR0 hIs hLI hbL hNL
    obtain ⟨ra, rc, rfl, hra, hrb, hel⟩ := rdv_slice hR0
    unfold maxLen at hrb
    obtain ⟨sb, -, -, hrun, hsub⟩ := slice_g (P := Tryz.prog) (t := 56) (by kernel_rfl) size_str hR0 0 L.length (Nat.zero_le _) (by simp)
    obtain ⟨g, off, rfl, hgB, hglt, cz, -⟩ := elems_str hel (i := L.length) (x := toB z) (by simp)
    rw [List.drop_zero, Nat.sub_zero, Nat.sub_zero, List.take_left] at hsub
    rw [hNL] at hrun hra ⊢
    rw [Nat.sub_zero, Nat.sub_zero] at hrun
    have hrun := fun (wx : World) => hrun (L.length : Nat) wx rfl rfl
    rw [hLI.out] at hrun cz
    have sw : IntKind.i64.wrap (((n + 1 : Nat) : Int) - 1) = (n : Int) := by rw [show ((n + 1 : Nat) : Int) - 1 = (n : Int) by omega]; exact IntWalk.i64_in _ (by omega)
    have hRH := readHunks_any L 0 _ w1 hsub (by rw [hLI.out]; exact hIl) hIs.out (Nat.zero_le _)
    rw [hbL, List.drop_zero] at hRH
    rw [hLI.out] at hRH
    obtain ⟨R, hR⟩ : ∃ R, refTake I 0 [] 0 0 = R := ⟨_, rfl⟩
    rw [hR] at hRH
    obtain ⟨hs0, j, ok⟩ := R
    have hRH := Lib.hid hRH
    have HRR := Lib.hid hR
    clear hR hsub hel hNL hn hR0
    go_wp2_with fail
    clear hrun
    refine hRH.out.mono ?_
    rintro e w2 ⟨r2, rfl, hc2, hr2⟩
    have hw := hc1.trans hc2
    have cz := hc2.cellNever cz
    clear hRH
    have hv2 := hr2.sub (O' := Never) (fun _ _ h => h.elim)
    obtain ⟨ea, ec, rfl, -, -, -⟩ := rdv_slice hr2
    cases ok with
    | false =>
      have HR := Lib.hid (rh_bad hl4.out HIZ.out HRR.out)
      clear cz hr2 hv2
      go_wp2_with fail
      go_ret3
      exact ⟨_, by rw [HR.out]; rfl, hw, by rw [HR.out]; exact rdv_nil _ _⟩
    | true =>
      by_cases hjn : j < n
      · have tj : decide ((j : Int) < (n : Int)) = true := decide_eq_true (by omega)
        have tjn : decide (j < n) = true := decide_eq_true hjn
        have HR := Lib.hid (rh_less hl4.out HIZ.out HRR.out (by rw [HN.out]; exact hjn))
        clear cz hr2 hv2
        go_wp2_with fail
        go_ret3
        exact ⟨_, by rw [HR.out]; rfl, hw, by rw [HR.out]; exact rdv_nil _ _⟩
      · have tj : decide ((j : Int) < (n : Int)) = false := decide_eq_false (by omega)
        have tjn : decide (j < n) = false := decide_eq_false hjn
        cases z with
        | cons c z =>
          have HR0 := Lib.hid (rh_last hl4.out HIZ.out HRR.out (by rw [HN.out]; omega) (by simp))
          have HR : Hid (parseU s.data.toList = ([], n, 5)) := by rw [Hid, HR0.out, HN.out]
          obtain ⟨zz, hzz⟩ : ∃ zz, toB (c :: z) = zz := ⟨_, rfl⟩
          have tz : decide (0 < zz.size) = true := by rw [← hzz, toB_size']; simp
          have tz2 : decide ((0 : Int) < (zz.size : Int)) = true := by have := of_decide_eq_true tz; exact decide_eq_true (by omega)
          rw [hzz] at cz
          clear hr2 hv2 HR0 hjn
          go_wp2_with fail
          go_ret3
          exact ⟨_, by rw [HR.out]; rfl, hw, by rw [HR.out]; exact rdv_nil _ _⟩
        | nil =>
          have HR0 := Lib.hid (rh_fine hl4.out HIZ.out HRR.out (by rw [HN.out]; omega))
          obtain ⟨zz, hzz⟩ : ∃ zz, toB [] = zz := ⟨_, rfl⟩
          have tz : decide (0 < zz.size) = false := by rw [← hzz]; rfl
          have tz2 : decide ((0 : Int) < (zz.size : Int)) = false := by have := of_decide_eq_false tz; exact decide_eq_false (by omega)
          rw [hzz] at cz
          clear hr2 hjn
          go_wp2_with fail
          refine (refHunks_any hs0 _ _ hv2).mono ?_
          rintro e w5 ⟨rfl, hc5⟩
          have hv5 := hv2.never hc5
          have hw5 := hw.trans hc5
          generalize (hunksFault hs0).1 = at0
          clear cz
          by_cases hz : (hunksFault hs0).2 = 0
          · have HR : Hid (parseU s.data.toList = (hs0, 0, 0)) := by rw [Hid, HR0.out, if_neg (by rw [hz]; decide)]
            rw [hz]
            clear hz
            go_wp2_with fail
            go_ret3
            exact ⟨_, by rw [HR.out]; rfl, hw5, by rw [HR.out]; exact hv5⟩
          · have HR : Hid (parseU s.data.toList = ([], 0, (hunksFault hs0).2)) := by rw [Hid, HR0.out, if_pos hz]
            have tF : ((hunksFault hs0).2 != 0) = true := by simpa using hz
            have tF2 : ((hunksFault hs0).2 == 0) = false := by simpa using hz
            generalize (hunksFault hs0).2 = fz at HR tF tF2
            clear hz
            go_wp2_with fail
            go_ret3
            exact ⟨_, by rw [HR.out]; rfl, hw5, by rw [HR.out]; exact rdv_nil _ _⟩
end Go.Proofs.YtmojaahkcpgfkaaGreatDoor
namespace Go.Proofs.YtmojaahkcpgfkaaGreatDoor
open Go.RowKit

def uniR (l : List Hunk) : ByteArray := if (hunksFault l).2 = 0 then toB (textU l) else ByteArray.empty
set_option maxHeartbeats 1000000 in
set_option maxRecDepth 100000 in
theorem uniprint_any (l : List Hunk) (v : Value) (w : World) (h : Rdv w Never v l) :
    Calls Tryz.prog 8 #[v] w fun e w' => e = .returned (.tuple #[.string (uniR l), errV (hunksFault l).2]) ∧ Chg Never w w' := by
  by_cases hz : (hunksFault l).2 = 0
  · have HZ := Lib.hid hz
    have HR : Hid (uniR l = ⟨(textU l).toArray⟩) := by unfold Hid uniR; rw [if_pos hz]; rfl
    have hv := h
    obtain ⟨a, cap, rfl, -, -, -⟩ := rdv_slice h
    clear hz h
    go_enter Tryz.func8, Tryz.ntmps8
    go_wp2_with fail
    refine (hunk_check_any l _ _ hv).mono ?_
    rintro e w1 ⟨rfl, hc1⟩
    rw [HZ.out, errV_zero]
    generalize (hunksFault l).1 = at0
    go_wp2_with fail
    have hv1 : Rdv w1 (From w1.heap.size) (.slice a l.length cap) l := hv.keep hc1 (fun _ _ h => h.elim) (fun k hk h => by unfold From at h; have := hc1.size; omega)
    have hI : IsB w1.heap.size w1.heap.size [] (w1.alloc (.cells #[.pointer none, .slice none 0 0] 65)) := Lib.IsBuilderF.of (Lib.fresh_isBuilder _ _ w1)
    have hA : Below w1.heap.size w1 (w1.alloc (.cells #[.pointer none, .slice none 0 0] 65)) := (Below.refl _ w1).alloc (Nat.le_refl _) _
    refine (write_any w1.heap.size w1.heap.size [] l _ _ (hv1.keep (chg_below hA) (fun _ _ h => h) (fun _ _ h => h)) hI HZ.out (Nat.zero_le _) hA.size).mono ?_
    rintro e w2 ⟨rfl, hI2, b2⟩
    rw [List.nil_append] at hI2
    have hb := hA.trans b2
    go_wp2_with fail
    refine (Tryz.Builder_String_any_k w1.heap.size w1.heap.size (textU l) _ hI2 hb.size).mono ?_
    rintro e w4 ⟨rfl, _, b4, _⟩
    go_wp2_with fail
    go_ret2
    exact ⟨by rw [HR.out, HZ.out]; rfl, hc1.trans (Chg.of_below (hb.trans b4))⟩
  · have HR : Hid (uniR l = ByteArray.empty) := if_neg hz
    have HZ := Lib.hid hz
    obtain ⟨a, cap, rfl, -, -, -⟩ := rdv_slice h
    go_enter Tryz.func8, Tryz.ntmps8
    go_wp2_with fail
    refine (hunk_check_any l _ _ h).mono ?_
    rintro e w1 ⟨rfl, hc1⟩
    rw [errV_pos hz]
    generalize (hunksFault l).1 = at0
    clear hz
    go_wp2_with fail
    go_ret2
    exact ⟨by rw [HR.out, errV_pos HZ.out]; rfl, hc1⟩
end Go.Proofs.YtmojaahkcpgfkaaGreatDoor
namespace Go.Proofs.YtmojaahkcpgfkaaGreatDoor
open Go.RowKit

set_option maxHeartbeats 2000000 in
set_option maxRecDepth 100000 in
theorem law_unifiedIs (l : List Hunk) (s : ByteArray) (v : Value) (w : World) (h : Rdv w Never v l) (hs : s.size ≤ 1048576) (m : Int) (_hm : w.cell? ⟨1, 0, none⟩ = some (.int .i64 m)) (hg : Globs w m) (hgt : w.cell? ⟨0, 0, none⟩ = some errT) :
    Calls Tryz.prog 3 #[v, .string s] w fun e w' => e = .returned (.bool true) ∧ Chg Never w w' := by
  have hs2 : s.size ≤ 100000000 := by omega
  have hP := uniprint_any l v
  have hv := h
  obtain ⟨a, cap, rfl, -, -, -⟩ := rdv_slice h
  clear h
  by_cases hz : (hunksFault l).2 = 0
  · have HT := fun wx hx => refHunksText_any l (.slice a l.length cap) wx hx hz
    have HU : Hid (uniR l = toB (textU l)) := by unfold Hid uniR; rw [if_pos hz]
    have HZ := Lib.hid hz
    clear hz
    go_enter Tryz.func3, Tryz.ntmps3
    go_wp2_with fail
    refine (refHunks_any l _ _ hv).mono ?_
    rintro e w1 ⟨rfl, hc1⟩
    rw [HZ.out]
    generalize (hunksFault l).1 = at0
    go_wp2_with fail
    refine (HT _ (hv.never hc1)).mono ?_
    rintro e w2 ⟨rfl, hc2⟩
    have hw2 := hc1.trans hc2
    rw [← HU.out]
    go_wp2_with fail
    refine (hP _ (hv.never hw2)).mono ?_
    rintro e w3 ⟨rfl, hc3⟩
    have hw3 := hw2.trans hc3
    rw [HZ.out]
    clear hP HT
    go_wp2_with fail
    refine (error_any 0 0 _ (hw3.cellNever hgt)).mono ?_
    rintro e w4 ⟨rfl, hc4⟩
    have hw4 := hw3.trans hc4
    rw [show ((0 : Int) == 0) = true from rfl]
    have tss : ((uniR l).toList == (uniR l).toList) = true := by simp
    have tsn : ((uniR l).toList != (uniR l).toList) = false := by simp
    clear hc1 hc2 hc3 hc4 hw2 hw3
    go_wp2_with fail
    refine (refHunksOf_any s _ hs2).mono ?_
    rintro e w4 ⟨r4, rfl, hc4, hr4⟩
    have hw4 := hw4.trans hc4
    go_wp2_with fail
    refine (uniparse_any s _ hs2 m (hg.never hw4)).mono ?_
    rintro e w5 ⟨r5, rfl, hc5, hr5⟩
    have hw5 := hw4.trans hc5
    have hr4 := hr4.never hc5
    generalize parseU s.data.toList = R at hr4 hr5 ⊢
    obtain ⟨X, k, f⟩ := R
    simp only at hr4 hr5 ⊢
    go_wp2_with fail
    refine (error_any f f _ (hw5.cellNever hgt)).mono ?_
    rintro e w6 ⟨rfl, hc6⟩
    rw [show (f == f) = true by simp]
    have hw6 := hw5.trans hc6
    go_wp2_with fail
    refine (hunks_eq_any X X _ _ _ (hr5.never hc6) (hr4.never hc6)).mono ?_
    rintro e w7 ⟨rfl, hc7⟩
    rw [decide_eq_true rfl]
    have tk : ((k : Int) == (k : Int)) = true := by simp
    go_wp2_with fail
    go_ret
    exact ⟨rfl, hw6.trans hc7⟩
  · have HU : Hid (uniR l = ByteArray.empty) := if_neg hz
    have t1 : ((hunksFault l).2 == 0) = false := by simpa using hz
    have t1n : ((hunksFault l).2 != 0) = true := by simpa using hz
    generalize hfz : (hunksFault l).2 = fz at t1 t1n
    have HZ := Lib.hid hfz
    clear hz hfz
    go_enter Tryz.func3, Tryz.ntmps3
    go_wp2_with fail
    refine (refHunks_any l _ _ hv).mono ?_
    rintro e w1 ⟨rfl, hc1⟩
    rw [HZ.out]
    generalize (hunksFault l).1 = at0
    go_wp2_with fail
    refine (hP _ (hv.never hc1)).mono ?_
    rintro e w3 ⟨rfl, hc3⟩
    have hw3 := hc1.trans hc3
    rw [HZ.out, HU.out]
    clear hP
    go_wp2_with fail
    refine (error_any fz fz _ (hw3.cellNever hgt)).mono ?_
    rintro e w4 ⟨rfl, hc4⟩
    have hw4 := hw3.trans hc4
    rw [show (fz == fz) = true by simp]
    clear hc1 hc3 hc4 hw3
    go_wp2_with fail
    refine (refHunksOf_any s _ hs2).mono ?_
    rintro e w4 ⟨r4, rfl, hc4, hr4⟩
    have hw4 := hw4.trans hc4
    go_wp2_with fail
    refine (uniparse_any s _ hs2 m (hg.never hw4)).mono ?_
    rintro e w5 ⟨r5, rfl, hc5, hr5⟩
    have hw5 := hw4.trans hc5
    have hr4 := hr4.never hc5
    generalize parseU s.data.toList = R at hr4 hr5 ⊢
    obtain ⟨X, k, f⟩ := R
    simp only at hr4 hr5 ⊢
    go_wp2_with fail
    refine (error_any f f _ (hw5.cellNever hgt)).mono ?_
    rintro e w6 ⟨rfl, hc6⟩
    rw [show (f == f) = true by simp]
    have hw6 := hw5.trans hc6
    go_wp2_with fail
    refine (hunks_eq_any X X _ _ _ (hr5.never hc6) (hr4.never hc6)).mono ?_
    rintro e w7 ⟨rfl, hc7⟩
    rw [decide_eq_true rfl]
    have tk : ((k : Int) == (k : Int)) = true := by simp
    go_wp2_with fail
    go_ret
    exact ⟨rfl, hw6.trans hc7⟩
end Go.Proofs.YtmojaahkcpgfkaaGreatDoor
namespace Go.Proofs.YtmojaahkcpgfkaaGreatDoor.lawUnifiedIs
open Go.ChangeShapes Go.WideShapes Go.ChangeAt Go.RowKit

set_option maxRecDepth 100000 in
theorem contract (H : Type) (enc : TypeId × Value → H) (W : World) (base : Nat) (args : Array Value) (ds gs : List (DataW H)) (before : List MemPlace)
    (hval : ∀ (j : Nat) t v, Tryz.f3.params[j]? = some t → args[j]? = some v → Value.okWide Tryz.prog W .any base t v)
    (hW : DataW.Whole enc Tryz.prog Tryz.f3.params.toList Rows.unifiedIsSpec.vars false W args.toList ds gs before) (hk : Rows.uptoSmall H (ds ++ gs) = true) (hL : laidMetH Tryz.prog Rows.unifiedIsUptoRow.laid W) (hS : W.ShapedOpen Tryz.prog) :
    Calls Tryz.prog 3 args W fun e W' => ∃ v, e = .returned v ∧ Rows.unifiedIsSpec.post enc Tryz.prog Tryz.f3 false true false false W args v W' := by
  have hg := handle_of_laidGI hL; have hL0 : laidMet Tryz.prog listedGB W := (parts_of_laidGI hL).1; have hgl : ∀ m, W.cell? ⟨1, 0, none⟩ = some (.int .i64 m) → Globs W m := fun m hm => globs_of (m := m) hm hL0 (by simp) (by simp) (by simp)
  obtain ⟨m, hm⟩ := maxlen_of hS
  have hW' := hW
  obtain ⟨p, q, hA0, hV, rfl, hfz, hnd⟩ := hW
  have hA : DataW.TrodAll enc Tryz.prog W 0 (fun _ => true) true Tryz.f3.params.toList args.toList ds p := hA0
  rw [Tryz.params3] at hA hval
  obtain ⟨v0, vs0, d0, ds0, p0, q0, hargs, rfl, rfl, h0, r0⟩ := trodAll_cons hA
  obtain ⟨v1, vs1, d1, ds1, p1, q1, rfl, rfl, rfl, h1, r1⟩ := trodAll_cons r0
  obtain ⟨rfl, rfl, rfl⟩ := trodAll_nil r1
  obtain rfl : args = #[v0, v1] := by cases args; simp_all
  obtain ⟨a0, len0, cap0, rfl⟩ := okWide_slice Tryz.underlying22 (hval 0 22 v0 rfl rfl)
  obtain ⟨u0, k0⟩ := h0
  obtain ⟨x0, hx0, hb0⟩ := opens_hunks _ _ _ _ _ _ _ _ _ _ k0
  obtain ⟨x1, rfl, rfl, rfl, wx1⟩ := Go.ChangeMaps.open_string Tryz.underlying9 (hval 1 9 v1 rfl rfl) h1
  have hbk := small_of hk
  simp only [List.cons_append, List.nil_append, Rows.uptoBulkAll, Rows.uptoBulk, Array.length_toList] at hbk
  have hx1 : x1.size ≤ 1048576 := by show x1.data.size ≤ _; omega
  refine (law_unifiedIs x0 x1 _ W hx0 hx1 m hm (hgl m hm) hg).mono fun e W' he => ?_
  obtain ⟨he, hc⟩ := he
  subst he
  exact ⟨_, rfl, post_law hW' rfl rfl Tryz.underlying4 rfl laidOut (by decide +kernel) hc⟩

theorem reads (os : Os) {H : Type} (enc : TypeId × Value → H) : ∃ places, DataW.whole enc Tryz.prog ((laidWorldG os).forCall (fun _ _ => 0) ⟨#[], #[.slice none 0 0, .string ⟨#[]⟩], []⟩).memory Tryz.f3.params.toList Rows.unifiedIsSpec.vars false (#[.slice none 0 0, .string ⟨#[]⟩] : Array Value).toList 8 = some ([.nil, .lit (.string [])], [], places) :=
  ⟨[], by kernel_rfl⟩
set_option maxRecDepth 100000 in
theorem liftedUpto (os : Os) (started : os.Started) (H : Type) (enc : TypeId × Value → H) (F : Stop.Interp) :
    ReturnsInHanded {} Tryz.checked os 3 .any ((Rows.OpenSpec.upto Rows.unifiedIsSpec).preRow enc Tryz.prog Tryz.f3 Rows.unifiedIsUptoRow.domain false Rows.unifiedIsUptoRow.laid) (((Rows.OpenSpec.upto Rows.unifiedIsSpec).at F).post enc Tryz.prog Tryz.f3 false true false false) := by
  obtain ⟨places, hx⟩ := reads os enc
  refine returnsInHanded_of_row (C := Tryz.checked) (s := Rows.OpenSpec.upto Rows.unifiedIsSpec) own started (by kernel_rfl) Tryz.func3
    (witness_row_at (enc := enc) (C := Tryz.checked) false (laidWorldG os) #[.slice none 0 0, .string ⟨#[]⟩] rfl (by kernel_rfl) (by kernel_rfl) (by kernel_rfl)
      (OpenSpec.preRow_of_cond 8 hx (by kernel_rfl) (fun k hk => by cases hk; kernel_rfl) (by kernel_rfl) (laidWorldGI_met os _))) ?_
  intro W base args ds gs before hval hW _ hcond _ hL hS _
  exact contract H enc W base args ds gs before hval hW (hcond _ rfl) hL hS

theorem saidUpto : Rows.UnifiedIsUptoSaid :=
  OpenClaim.holds_of_cond 3 Tryz.f3 rfl rfl rfl rfl rfl rfl rfl ⟨rfl, rfl, rfl, rfl, rfl⟩ rfl rfl rfl rfl rfl (by kernel_rfl) Tryz.func3 (by kernel_rfl)
    (of_decide_eq_true (by kernel_rfl)) (by unfold Func.isWrapper; first | (rw [if_pos (by decide +kernel)]; kernel_rfl) | (rw [if_neg (by decide +kernel)]; exact ⟨rfl, rfl⟩))
    (fun os started H enc _ F => by rw [OpenClaim.pre_eq_preRow]; exact liftedUpto os started H enc F)

theorem plain (f : FuncId) (fn : Func) (hf : Tryz.pinned.checked.prog.funcNamed "handstitch/handstitchlaw1.UnifiedIs" = some f) (hfn : Tryz.pinned.checked.prog.funcs[f]? = some fn) :
    true = Tryz.pinned.checked.prog.looks [] ∧ ∀ (j : Nat) t, fn.params[j]? = some t → Tryz.pinned.checked.prog.wantsStandIn t = false := by
  obtain rfl : f = 3 := Option.some.inj ((show Tryz.prog.funcNamed "handstitch/handstitchlaw1.UnifiedIs" = some 3 by kernel_rfl).symm.trans hf) |>.symm
  obtain rfl : fn = Tryz.f3 := (Option.some.inj (Tryz.func3.symm.trans hfn)).symm
  refine ⟨by kernel_rfl, fun j t ht => ?_⟩
  rw [Tryz.params3] at ht
  have hm := Array.mem_of_getElem? ht
  simp only [List.mem_toArray, List.mem_cons, List.not_mem_nil, or_false] at hm
  clear ht
  repeat' (first | (rcases hm with rfl | hm) | subst hm)
  all_goals exact (show Tryz.prog.wantsStandIn _ = false by kernel_rfl)

theorem cardUpto : Rows.UnifiedIsUptoCardSaid :=
  Claim7.holds_tied_plain_at .later [] _ _ _ _ saidUpto (fun _ h => by cases h) (by kernel_rfl) (fun _ h => by cases h) unifiedIsUpto_row_tie rfl ⟨rfl, rfl⟩ (by kernel_rfl) rfl plain (by kernel_rfl)
end Go.Proofs.YtmojaahkcpgfkaaGreatDoor.lawUnifiedIs
