/-
  PARTS: THE WALK of the document's HunksOf (handstitchref2).; THE SHAPE OF A CHANGE AS THE DOCUMENT ASKS FOR IT, in plain Lean.; THE WALK of the document's PatchFault.; append OF A WHOLE SLICE whose elements lie in blocks of their own, to one of the call's own. No program in sight.; MORE ON ROWS THAT append HAS BUILT, whose elements lie elsewhere.; THE WALK of git.changes.
-/
import Derived.Test.YtmojaahkcpgfkaaGreatDoorPackGu10
import Derived.Test.YtmojaahkcpgfkaaGreatDoorPackGu11
import Derived.Test.YtmojaahkcpgfkaaGreatDoorPackGu6
import Derived.Test.YtmojaahkcpgfkaaGreatDoorPackGu8
import Derived.Test.YtmojaahkcpgfkaaGreatDoorPackGu5
import Derived.BigQuiet
import Derived.Deep.Cut
import Derived.Test.YtmojaahkcpgfkaaGreatDoorPackGu4
import Derived.Test.YtmojaahkcpgfkaaGreatDoorPackGu9
import Derived.Test.YtmojaahkcpgfkaaGreatDoorPackGu7
import Derived.Deep.RegionHeld3
import Derived.Deep.CutRange
namespace Go.Proofs.YtmojaahkcpgfkaaGreatDoor
open Go.RowKit

theorem rh_bad {s z : List UInt8} {I : List (List UInt8)} {hs : List Hunk} {j : Nat} (h : s.length ≤ 400000) (hp : parts 10 s = I ++ [z]) (ht : refTake I 0 [] 0 0 = (hs, j, false)) : parseU s = ([], j, 5) := by
  rw [← refHunks_eq]
  unfold refHunks
  rw [if_neg (by omega), hp, List.dropLast_concat, ht]
theorem rh_less {s z : List UInt8} {I : List (List UInt8)} {hs : List Hunk} {j : Nat} (h : s.length ≤ 400000) (hp : parts 10 s = I ++ [z]) (ht : refTake I 0 [] 0 0 = (hs, j, true)) (hj : j < I.length) : parseU s = ([], j, 5) := by
  rw [← refHunks_eq]
  unfold refHunks
  rw [if_neg (by omega), hp, List.dropLast_concat, ht]
  simp only
  rw [if_pos (by rw [List.length_append]; simp; omega)]
theorem rh_last {s z : List UInt8} {I : List (List UInt8)} {hs : List Hunk} {j : Nat} (h : s.length ≤ 400000) (hp : parts 10 s = I ++ [z]) (ht : refTake I 0 [] 0 0 = (hs, j, true)) (hj : I.length ≤ j) (hz : z ≠ []) : parseU s = ([], I.length, 5) := by
  rw [← refHunks_eq]
  unfold refHunks
  rw [if_neg (by omega), hp, List.dropLast_concat, ht]
  simp only
  rw [if_neg (by rw [List.length_append]; simp; omega), if_pos (by simpa using hz), List.length_append]
  rfl
theorem rh_fine {s : List UInt8} {I : List (List UInt8)} {hs : List Hunk} {j : Nat} (h : s.length ≤ 400000) (hp : parts 10 s = I ++ [[]]) (ht : refTake I 0 [] 0 0 = (hs, j, true)) (hj : I.length ≤ j) : parseU s = if (hunksFault hs).2 ≠ 0 then ([], 0, (hunksFault hs).2) else (hs, 0, 0) := by
  rw [← refHunks_eq]
  unfold refHunks
  rw [if_neg (by omega), hp, List.dropLast_concat, ht]
  simp only
  rw [if_neg (by rw [List.length_append]; simp; omega), if_neg (by simp)]
set_option maxHeartbeats 2000000 in
set_option maxRecDepth 100000 in
theorem refHunksOf_any (s : ByteArray) (w : World) (hs : s.size ≤ 100000000) :
    Calls Tryz.prog 10 #[.string s] w fun e w' => ∃ r, e = .returned (.tuple #[r, .int .i64 ((parseU s.data.toList).2.1 : Nat), .int .i64 (parseU s.data.toList).2.2]) ∧ Chg Never w w' ∧ Rdv w' Never r (parseU s.data.toList).1 := by
  have hsz := Lib.size_eq s
  by_cases hl : 400000 < s.size
  · have HR := Lib.hid (pu_long (s := s.data.toList) (by omega))
    clear hsz
    go_enter Tryz.func10, Tryz.ntmps10
    go_wp2_with fail
    go_ret3
    exact ⟨_, by rw [HR.out]; rfl, Chg.refl _ _, by rw [HR.out]; exact rdv_nil _ _⟩
  · obtain ⟨I, z, hIz⟩ := last_of (parts_ne 10 s.data.toList)
    have hcnt := parts_count 10 s.data.toList
    have hpm := parts_mem 10 s.data.toList
    have HIZ := Lib.hid hIz
    have hIl : I.length ≤ 1000000 := by
      rw [hIz, List.length_append] at hcnt
      have := hcnt
      simp only [List.length_cons, List.length_nil] at hcnt
      omega
    have hIs : Hid (∀ x ∈ I.map toB, x.size ≤ 1000000000) := by
      intro x hx
      obtain ⟨y, hy, rfl⟩ := List.mem_map.1 hx
      have := hpm y (by rw [hIz]; exact List.mem_append_left _ hy)
      rw [toB_size']
      omega
    have hl4 : Hid (s.data.toList.length ≤ 400000) := by rw [Hid]; omega
    have hP := refParts_any s w hs
    rw [hIz, List.map_append] at hP
    have HP := Lib.hid hP
    have hLI : Hid ((I.map toB).length = I.length) := by rw [Hid, List.length_map]
    have hbL := linesB_toB I
    clear hP hIz hcnt hpm hsz
    go_enter Tryz.func10, Tryz.ntmps10
    go_wp2_with fail
    refine HP.out.mono ?_
    rintro e w1 ⟨r, rfl, hc1, hR0⟩
    have hR0 := hR0.sub (O' := Never) (fun _ _ h => h.elim)
    have hNL : (I.map toB ++ [z].map toB).length = I.length + 1 := by simp
    obtain ⟨n, hn⟩ : ∃ n, I.length = n := ⟨_, rfl⟩
    have HN := Lib.hid hn
    rw [hn] at hLI hNL hIl
    generalize I.map toB = L at hR0 hIs hLI hbL hNL
    obtain ⟨ra, rc, rfl, hra, hrb, hel⟩ := rdv_slice hR0
    unfold maxLen at hrb
    obtain ⟨sb, -, -, hrun, hsub⟩ := slice_g (P := Tryz.prog) (t := 56) (by kernel_rfl) size_str hR0 0 L.length (Nat.zero_le _) (by simp)
    obtain ⟨g, off, rfl, hgB, hglt, cz, -⟩ := elems_str hel (i := L.length) (x := toB z) (by simp)
    rw [List.drop_zero, Nat.sub_zero, Nat.sub_zero, List.take_left] at hsub
    rw [hNL] at hrun hra ⊢
    rw [Nat.sub_zero, Nat.sub_zero] at hrun
    have hrun := fun (wx : World) => hrun (L.length : Nat) wx rfl rfl
    rw [hLI.out] at hrun cz
    have sw : IntKind.i64.wrap (((n + 1 : Nat) : Int) - 1) = (n : Int) := by rw [show ((n + 1 : Nat) : Int) - 1 = (n : Int) by omega]; exact IntWalk.i64_in _ (by omega)
    have hRH := readHunks_any L 0 _ w1 hsub (by rw [hLI.out]; exact hIl) hIs.out (Nat.zero_le _)
    rw [hbL, List.drop_zero] at hRH
    rw [hLI.out] at hRH
    obtain ⟨R, hR⟩ : ∃ R, refTake I 0 [] 0 0 = R := ⟨_, rfl⟩
    rw [hR] at hRH
    obtain ⟨hs0, j, ok⟩ := R
    have hRH := Lib.hid hRH
    have HRR := Lib.hid hR
    clear hR hsub hel hNL hn hR0
    go_wp2_with fail
    clear hrun
    refine hRH.out.mono ?_
    rintro e w2 ⟨r2, rfl, hc2, hr2⟩
    have hw := hc1.trans hc2
    have cz := hc2.cellNever cz
    clear hRH
    have hv2 := hr2.sub (O' := Never) (fun _ _ h => h.elim)
    obtain ⟨ea, ec, rfl, -, -, -⟩ := rdv_slice hr2
    cases ok with
    | false =>
      have HR := Lib.hid (rh_bad hl4.out HIZ.out HRR.out)
      clear cz hr2 hv2
      go_wp2_with fail
      go_ret3
      exact ⟨_, by rw [HR.out]; rfl, hw, by rw [HR.out]; exact rdv_nil _ _⟩
    | true =>
      by_cases hjn : j < n
      · have tj : decide ((j : Int) < (n : Int)) = true := decide_eq_true (by omega)
        have tjn : decide (j < n) = true := decide_eq_true hjn
        have HR := Lib.hid (rh_less hl4.out HIZ.out HRR.out (by rw [HN.out]; exact hjn))
        clear cz hr2 hv2
        go_wp2_with fail
        go_ret3
        exact ⟨_, by rw [HR.out]; rfl, hw, by rw [HR.out]; exact rdv_nil _ _⟩
      · have tj : decide ((j : Int) < (n : Int)) = false := decide_eq_false (by omega)
        have tjn : decide (j < n) = false := decide_eq_false hjn
        cases z with
        | cons c z =>
          have HR0 := Lib.hid (rh_last hl4.out HIZ.out HRR.out (by rw [HN.out]; omega) (by simp))
          have HR : Hid (parseU s.data.toList = ([], n, 5)) := by rw [Hid, HR0.out, HN.out]
          obtain ⟨zz, hzz⟩ : ∃ zz, toB (c :: z) = zz := ⟨_, rfl⟩
          have tz : decide (0 < zz.size) = true := by rw [← hzz, toB_size']; simp
          have tz2 : decide ((0 : Int) < (zz.size : Int)) = true := by have := of_decide_eq_true tz; exact decide_eq_true (by omega)
          rw [hzz] at cz
          clear hr2 hv2 HR0 hjn
          go_wp2_with fail
          go_ret3
          exact ⟨_, by rw [HR.out]; rfl, hw, by rw [HR.out]; exact rdv_nil _ _⟩
        | nil =>
          have HR0 := Lib.hid (rh_fine hl4.out HIZ.out HRR.out (by rw [HN.out]; omega))
          obtain ⟨zz, hzz⟩ : ∃ zz, toB [] = zz := ⟨_, rfl⟩
          have tz : decide (0 < zz.size) = false := by rw [← hzz]; rfl
          have tz2 : decide ((0 : Int) < (zz.size : Int)) = false := by have := of_decide_eq_false tz; exact decide_eq_false (by omega)
          rw [hzz] at cz
          clear hr2 hjn
          go_wp2_with fail
          refine (refHunks_any hs0 _ _ hv2).mono ?_
          rintro e w5 ⟨rfl, hc5⟩
          have hv5 := hv2.never hc5
          have hw5 := hw.trans hc5
          generalize (hunksFault hs0).1 = at0
          clear cz
          by_cases hz : (hunksFault hs0).2 = 0
          · have HR : Hid (parseU s.data.toList = (hs0, 0, 0)) := by rw [Hid, HR0.out, if_neg (by rw [hz]; decide)]
            rw [hz]
            clear hz
            go_wp2_with fail
            go_ret3
            exact ⟨_, by rw [HR.out]; rfl, hw5, by rw [HR.out]; exact hv5⟩
          · have HR : Hid (parseU s.data.toList = ([], 0, (hunksFault hs0).2)) := by rw [Hid, HR0.out, if_pos hz]
            have tF : ((hunksFault hs0).2 != 0) = true := by simpa using hz
            have tF2 : ((hunksFault hs0).2 == 0) = false := by simpa using hz
            generalize (hunksFault hs0).2 = fz at HR tF tF2
            clear hz
            go_wp2_with fail
            go_ret3
            exact ⟨_, by rw [HR.out]; rfl, hw5, by rw [HR.out]; exact rdv_nil _ _⟩
end Go.Proofs.YtmojaahkcpgfkaaGreatDoor
namespace Go.Proofs.YtmojaahkcpgfkaaGreatDoor

theorem allSign_those (l : List Mark) (s : Int) : allSign l s = decide ((those l s).length = 0) := by
  unfold allSign those
  rw [List.length_map]
  induction l with
  | nil => rfl
  | cons m r ih =>
    rw [List.all_cons, ih, List.filter_cons]
    by_cases h : m.sign = s
    · simp [h]
    · simp [h]
theorem shape_edit0 {c : Change} (h : c.what = 1) (g : c.hunks = []) : shapeB c = false := by
  unfold shapeB; rw [if_neg (by rw [h]; decide), if_neg (by rw [h]; decide), g]; rfl
theorem shape_edit {c : Change} (h : c.what = 1) (g : c.hunks ≠ []) : shapeB c = true := by
  unfold shapeB
  rw [if_neg (by rw [h]; decide), if_neg (by rw [h]; decide)]
  cases hh : c.hunks with
  | nil => exact absurd hh g
  | cons x r => rfl
theorem shape_of {c : Change} (h : c.what = 2 ∨ c.what = 3) : shapeB c = wholeB c.hunks (if c.what = 2 then 43 else 45) := by
  unfold shapeB
  by_cases e : c.what = 2
  · rw [if_pos e, if_pos e]
  · rw [if_neg e, if_neg e, if_pos (h.resolve_left e)]
theorem shape_many {c : Change} (h : c.what = 2 ∨ c.what = 3) (g : 2 ≤ c.hunks.length) : shapeB c = false := by rw [shape_of h, wholeB_many g]
theorem shape_none {c : Change} (h : c.what = 2 ∨ c.what = 3) (g : c.hunks = []) : shapeB c = true := by rw [shape_of h, g]; rfl
theorem shape_one {c : Change} {x : Hunk} (h : c.what = 2 ∨ c.what = 3) (g : c.hunks = [x]) (f : (hunksFault c.hunks).2 = 0) : shapeB c = (decide (x.old = 0) && decide ((those x.marks (if c.what = 2 then 43 else 45)).length = 0)) := by
  rw [shape_of h, g, wholeB_one, allSign_those]
  have e : x.new = x.old := by
    rw [g] at f
    have := ((hunksFault_zero f).2).1
    have := (oneFault_zero this).2.2.2.2.2.2.2
    omega
  by_cases o : x.old = 0
  · rw [decide_eq_true o, decide_eq_true (by omega)]; rfl
  · rw [decide_eq_false o]; rfl
/-- a place where a patch stands no longer -/
theorem pg_bad {t : List Change} {k : Nat} {f : Change} {prev : Option ByteArray} (hd : t.drop k = f :: t.drop (k + 1)) (h1 : changeFault f = 0 ∨ changeFault f = 2) (h2 : shapeB f = false ∨ prev.any (fun p => leqB f.path p) = true) (hs : shapeB f = false → changeFault f = 2) : patchGo k prev (t.drop k) = (k, 2) := by
  rw [hd, patchGo]
  by_cases e : changeFault f ≠ 0
  · rw [if_pos e, h1.resolve_left e]
  · rw [if_neg e]
    rcases h2 with h2 | h2
    · exact absurd (by rw [hs h2]; decide) e
    · rw [if_pos h2]
end Go.Proofs.YtmojaahkcpgfkaaGreatDoor
namespace Go.Proofs.YtmojaahkcpgfkaaGreatDoor
open Go.RowKit

set_option maxHeartbeats 8000000 in
set_option maxRecDepth 100000 in
theorem refPatch_any (t : List Change) (v : Value) (w : World) (h : Rdv w Never v t) :
    Calls Tryz.prog 14 #[v] w fun e w' => e = .returned (.tuple #[.int .i64 (patchFault t).1, .int .i64 (patchFault t).2]) ∧ Chg Never w w' := by
  obtain ⟨a, cap, rfl, h1, h2, h3⟩ := rdv_slice h
  unfold maxLen at h2
  by_cases h8 : 16 < t.length
  · have HF : Hid (patchFault t = (0, 3)) := if_pos h8
    go_enter Tryz.func14, Tryz.ntmps14
    go_wp2_with fail
    go_ret2
    exact ⟨by rw [HF.out]; rfl, Chg.refl _ _⟩
  · have HF : Hid (patchFault t = patchGo 0 (prevC t 0) (t.drop 0)) := if_neg h8
    go_enter Tryz.func14, Tryz.ntmps14
    go_wp2_with fail
    go_loopw [4] (fun i wr => ∃ k : Nat, k ≤ t.length ∧ i = .int .i64 k ∧ Chg Never w wr ∧ Hid (patchFault t = patchGo k (prevC t k) (t.drop k))) (fun i _ => t.length - (intOf i).toNat)
    case atStart => exact ⟨0, Nat.zero_le _, rfl, Chg.refl _ _, HF.out⟩
    case round =>
      clear HF
      rename World => wr
      obtain ⟨k, hk, rfl, hc, hG⟩ := hrel
      by_cases hlt : k < t.length
      · obtain ⟨x, hx⟩ : ∃ x, t[k]? = some x := ⟨t[k], by simp [hlt]⟩
        obtain ⟨wh, pt, hs⟩ := x
        obtain ⟨b, off, lv, hbo, _, _, c0, c1, c2, hps, hlv⟩ := elems_change h3 hx
        subst hbo
        simp only at c0 c1 c2 hps hlv
        obtain ⟨la, lcap, rfl, _, _, hlh⟩ := rdv_slice hlv
        have c0 := hc.cellNever c0
        have c1 := hc.cellNever c1
        have c2 := hc.cellNever c2
        have HD := Lib.hid (drop_eq hx)
        have HPV := Lib.hid (prevC_succ hx)
        simp only at HPV
        obtain ⟨hA, d0, d1, d2⟩ := box1_change wr 79 wh pt (.slice la hs.length lcap) _ rfl
        clear hx
        by_cases r : wh < 1 ∨ 3 < wh
        · have HE : Hid (patchFault t = (k, 1)) := by rw [Hid, hG.out, patchGo_bad HD.out (by rw [cf_rng (c := ⟨wh, pt, hs⟩) r]; decide), cf_rng (c := ⟨wh, pt, hs⟩) r]
          clear hG
          rcases r with r | r
          · go_wp2_with fail
            go_ret2
            exact ⟨by rw [HE.out]; rfl, hc.trans hA⟩
          · have r0 : ¬ wh < 1 := by omega
            go_wp2_with fail
            go_ret2
            exact ⟨by rw [HE.out]; rfl, hc.trans hA⟩
        · have r0 : ¬ wh < 1 := by omega
          have r1 : ¬ 3 < wh := by omega
          by_cases z : pathFault pt = 0
          · have P0 := Lib.hid z
            by_cases y : (hunksFault hs).2 = 0
            · have H0 := Lib.hid y
              have HCF : Hid ((shapeB ⟨wh, pt, hs⟩ = true → changeFault ⟨wh, pt, hs⟩ = 0) ∧ (shapeB ⟨wh, pt, hs⟩ = false → changeFault ⟨wh, pt, hs⟩ = 2)) := ⟨fun s => cf_ok r z y s, fun s => cf_shape r z y s⟩
              clear r z y
              go_wp2_with fail
              generalize wr.alloc (.cells #[.int .i64 wh, .string pt, .slice la hs.length lcap] 79) = w3 at hA d0 d1 d2 ⊢
              have hc3 := hc.trans hA
              clear hA c0 c1 c2
              refine (refPath_any pt _).mono ?_
              rintro e w4 ⟨rfl, hc4⟩
              have d0 := hc4.cellNever d0
              have d1 := hc4.cellNever d1
              have d2 := hc4.cellNever d2
              have hcD := hc3.trans hc4
              clear hc3 hc4
              rw [P0.out]
              go_wp2_with fail
              refine (refHunks_any hs _ _ (hlv.never hcD)).mono ?_
              rintro e w5 ⟨rfl, hc5⟩
              have d0 := hc5.cellNever d0
              have d1 := hc5.cellNever d1
              have d2 := hc5.cellNever d2
              have hcD := hcD.trans hc5
              clear hc5
              rw [H0.out]
              rcases Nat.eq_zero_or_pos k with h0 | h0
              · subst h0
                have HO : Hid ((prevC t 0).any (fun p => leqB pt p) = false) := rfl
                by_cases k1 : wh = 1
                · subst k1
                  by_cases hs0 : hs = []
                  · subst hs0
                    have hsh : shapeB ⟨1, pt, []⟩ = false := shape_edit0 rfl rfl
                    have HE : Hid (patchFault t = (0, 2)) := by rw [Hid, hG.out]; exact pg_bad HD.out (.inr (HCF.out.2 hsh)) (.inl hsh) HCF.out.2
                    clear hG hsh
                    go_wp2_with fail
                    go_quiet (fail)
                    go_wp2_with fail
                    go_ret2
                    exact ⟨by rw [HE.out]; rfl, hcD.drewN _⟩
                  · have t0 : ((hs.length : Int) == 0) = false := beq_eq_false_iff_ne.2 (by have := List.length_pos_iff.2 hs0; omega)
                    have hsh : shapeB ⟨1, pt, hs⟩ = true := shape_edit rfl hs0
                    have HNX : Hid (patchFault t = patchGo (0 + 1) (prevC t (0 + 1)) (t.drop (0 + 1))) := by rw [Hid, HPV.out, hG.out]; exact patchGo_next HD.out (HCF.out.1 hsh) HO.out
                    clear hs0 hG hsh
                    go_wp2_with fail
                    go_quiet (fail)
                    generalize hqq : World.drewN w5 _ = w6
                    have hq : Chg Never w5 w6 := hqq ▸ (Chg.refl Never w5).drewN _
                    clear hqq
                    have hcE := hcD.trans hq
                    have d0 := hq.cellNever d0
                    have d1 := hq.cellNever d1
                    have d2 := hq.cellNever d2
                    clear hq hcD
                    go_wp2_with fail
                    go_roundw
                    case rel => exact ⟨0 + 1, by omega, by go_num, hcE, HNX.out⟩
                    case measure => simp [intOf] <;> omega
                · have t1 : (wh == 1) = false := by simp [k1]
                  have t1' : (wh != 1) = true := by simp [k1]
                  have k23 : wh = 2 ∨ wh = 3 := by omega
                  by_cases gm : (1 : Int) < hs.length
                  · have gm' := decide_eq_true gm
                    have hsh : shapeB ⟨wh, pt, hs⟩ = false := shape_many k23 (by show 2 ≤ hs.length; omega)
                    have HE : Hid (patchFault t = (0, 2)) := by rw [Hid, hG.out]; exact pg_bad HD.out (.inr (HCF.out.2 hsh)) (.inl hsh) HCF.out.2
                    clear hG hsh k1 k23
                    go_wp2_with fail
                    go_quiet (fail)
                    go_wp2_with fail
                    go_ret2
                    exact ⟨by rw [HE.out]; rfl, hcD.drewN _⟩
                  · have gm' := decide_eq_false gm
                    by_cases hs0 : hs = []
                    · subst hs0
                      have hsh : shapeB ⟨wh, pt, []⟩ = true := shape_none k23 rfl
                      have HNX : Hid (patchFault t = patchGo (0 + 1) (prevC t (0 + 1)) (t.drop (0 + 1))) := by rw [Hid, HPV.out, hG.out]; exact patchGo_next HD.out (HCF.out.1 hsh) HO.out
                      clear hG hsh k1 k23 gm gm'
                      go_wp2_with fail
                      go_quiet (fail)
                      generalize hqq : World.drewN w5 _ = w6
                      have hq : Chg Never w5 w6 := hqq ▸ (Chg.refl Never w5).drewN _
                      clear hqq
                      have hcE := hcD.trans hq
                      have d0 := hq.cellNever d0
                      have d1 := hq.cellNever d1
                      have d2 := hq.cellNever d2
                      clear hq hcD
                      go_wp2_with fail
                      go_roundw
                      case rel => exact ⟨0 + 1, by omega, by go_num, hcE, HNX.out⟩
                      case measure => simp [intOf] <;> omega
                    · obtain ⟨x, rfl⟩ : ∃ x, hs = [x] := by
                        match hs, hs0, gm with
                        | [x], _, _ => exact ⟨x, rfl⟩
                        | a :: b :: r, _, gm => exact absurd (by simp; omega) gm
                      clear gm gm' hs0
                      obtain ⟨ov, nv, mk⟩ := x
                      have HMK : Hid (scriptFault mk = 0) := hOk_mem _ _ _ (hunksFault_zero H0.out).2 ⟨ov, nv, mk⟩ (List.mem_singleton.2 rfl)
                      go_wp2_with fail
                      go_quiet (fail)
                      generalize hqq : World.drewN w5 _ = w6
                      have hq : Chg Never w5 w6 := hqq ▸ (Chg.refl Never w5).drewN _
                      clear hqq
                      have hcE := hcD.trans hq
                      have d0 := hq.cellNever d0
                      have d1 := hq.cellNever d1
                      have d2 := hq.cellNever d2
                      clear hq hcD
                      obtain ⟨xb, xo, xv, hxa, _, _, x0, x1, x2, hmv⟩ := elems_hunk hlh (i := 0) rfl
                      subst hxa
                      simp only [Nat.zero_mul, Nat.add_zero] at x0 x1 x2 hmv
                      have x0 := hcE.cellNever x0
                      have x1 := hcE.cellNever x1
                      have x2 := hcE.cellNever x2
                      obtain ⟨xa, xc, rfl, _, _, _⟩ := rdv_slice hmv
                      by_cases o : ov = 0
                      · subst o
                        have hBx := Blk3.new w6 42 (.int .i64 0) (.int .i64 nv) (.slice xa mk.length xc)
                        have hAx : Chg Never w6 (w6.alloc (.cells #[.int .i64 0, .int .i64 nv, .slice xa mk.length xc] 42)) := (Chg.refl Never w6).alloc _
                        rcases k23 with k2 | k3
                        · subst k2
                          clear t1 t1' k1
                          go_upto_region 18 with fail
                          generalize w6.alloc (.cells #[.int .i64 0, .int .i64 nv, .slice xa mk.length xc] 42) = w7 at hBx hAx ⊢
                          clear x0 x1 x2
                          obtain ⟨x0, _, x2⟩ := hBx.cell
                          have d0 := hAx.cellNever d0
                          go_wp2_with fail
                          refine (refOld_any mk _ _ (hmv.never (hcE.trans hAx)) HMK.out).mono ?_
                          rintro e w8 ⟨r8, rfl, hc8, hr8⟩
                          obtain ⟨ra, rc, rfl, _, _, _⟩ := rdv_slice hr8
                          have hcE := (hcE.trans hAx).trans hc8
                          have d0 := hc8.cellNever d0
                          have x0 := hc8.cellNever x0
                          have x2 := hc8.cellNever x2
                          clear hr8 hc8 hAx d1 d2
                          by_cases n0 : (those mk 43).length = 0
                          · have hsh : shapeB ⟨2, pt, [⟨0, nv, mk⟩]⟩ = true := by
                              rw [shape_one (c := ⟨2, pt, [⟨0, nv, mk⟩]⟩) (.inl rfl) rfl H0.out, decide_eq_true (show (⟨0, nv, mk⟩ : Hunk).old = 0 from rfl)]
                              exact decide_eq_true n0
                            have HNX : Hid (patchFault t = patchGo (0 + 1) (prevC t (0 + 1)) (t.drop (0 + 1))) := by rw [Hid, HPV.out, hG.out]; exact patchGo_next HD.out (HCF.out.1 hsh) HO.out
                            have n0' : ¬ (0 : Int) < (those mk 43).length := by omega
                            have n0'' := decide_eq_false n0'
                            have n0n : ¬ 0 < (those mk 43).length := by omega
                            clear hG hsh n0
                            go_wp2_with fail
                            go_roundw
                            case rel => exact ⟨0 + 1, by omega, by go_num, hcE, HNX.out⟩
                            case measure => simp [intOf] <;> omega
                          · have hsh : shapeB ⟨2, pt, [⟨0, nv, mk⟩]⟩ = false := by
                              rw [shape_one (c := ⟨2, pt, [⟨0, nv, mk⟩]⟩) (.inl rfl) rfl H0.out, decide_eq_true (show (⟨0, nv, mk⟩ : Hunk).old = 0 from rfl)]
                              exact decide_eq_false n0
                            have HE : Hid (patchFault t = (0, 2)) := by rw [Hid, hG.out]; exact pg_bad HD.out (.inr (HCF.out.2 hsh)) (.inl hsh) HCF.out.2
                            have n0' : (0 : Int) < (those mk 43).length := by omega
                            have n0'' := decide_eq_true n0'
                            have n0n : 0 < (those mk 43).length := by omega
                            clear hG hsh n0
                            go_wp2_with fail
                            go_ret2
                            exact ⟨by rw [HE.out]; rfl, hcE⟩
                        · subst k3
                          clear t1 t1' k1
                          go_upto_region 18 with fail
                          generalize w6.alloc (.cells #[.int .i64 0, .int .i64 nv, .slice xa mk.length xc] 42) = w7 at hBx hAx ⊢
                          clear x0 x1 x2
                          obtain ⟨x0, _, x2⟩ := hBx.cell
                          have d0 := hAx.cellNever d0
                          go_wp2_with fail
                          refine (refNew_any mk _ _ (hmv.never (hcE.trans hAx)) HMK.out).mono ?_
                          rintro e w8 ⟨r8, rfl, hc8, hr8⟩
                          obtain ⟨ra, rc, rfl, _, _, _⟩ := rdv_slice hr8
                          have hcE := (hcE.trans hAx).trans hc8
                          have d0 := hc8.cellNever d0
                          have x0 := hc8.cellNever x0
                          have x2 := hc8.cellNever x2
                          clear hr8 hc8 hAx d1 d2
                          by_cases n0 : (those mk 45).length = 0
                          · have hsh : shapeB ⟨3, pt, [⟨0, nv, mk⟩]⟩ = true := by
                              rw [shape_one (c := ⟨3, pt, [⟨0, nv, mk⟩]⟩) (.inr rfl) rfl H0.out, decide_eq_true (show (⟨0, nv, mk⟩ : Hunk).old = 0 from rfl)]
                              exact decide_eq_true n0
                            have HNX : Hid (patchFault t = patchGo (0 + 1) (prevC t (0 + 1)) (t.drop (0 + 1))) := by rw [Hid, HPV.out, hG.out]; exact patchGo_next HD.out (HCF.out.1 hsh) HO.out
                            have n0' : ¬ (0 : Int) < (those mk 45).length := by omega
                            have n0'' := decide_eq_false n0'
                            have n0n : ¬ 0 < (those mk 45).length := by omega
                            clear hG hsh n0
                            go_wp2_with fail
                            go_roundw
                            case rel => exact ⟨0 + 1, by omega, by go_num, hcE, HNX.out⟩
                            case measure => simp [intOf] <;> omega
                          · have hsh : shapeB ⟨3, pt, [⟨0, nv, mk⟩]⟩ = false := by
                              rw [shape_one (c := ⟨3, pt, [⟨0, nv, mk⟩]⟩) (.inr rfl) rfl H0.out, decide_eq_true (show (⟨0, nv, mk⟩ : Hunk).old = 0 from rfl)]
                              exact decide_eq_false n0
                            have HE : Hid (patchFault t = (0, 2)) := by rw [Hid, hG.out]; exact pg_bad HD.out (.inr (HCF.out.2 hsh)) (.inl hsh) HCF.out.2
                            have n0' : (0 : Int) < (those mk 45).length := by omega
                            have n0'' := decide_eq_true n0'
                            have n0n : 0 < (those mk 45).length := by omega
                            clear hG hsh n0
                            go_wp2_with fail
                            go_ret2
                            exact ⟨by rw [HE.out]; rfl, hcE⟩
                      · have o0 : (ov == 0) = false := by simp [o]
                        have hBx := Blk3.new w6 42 (.int .i64 ov) (.int .i64 nv) (.slice xa mk.length xc)
                        have hAx : Chg Never w6 (w6.alloc (.cells #[.int .i64 ov, .int .i64 nv, .slice xa mk.length xc] 42)) := (Chg.refl Never w6).alloc _
                        have o1 : (ov != 0) = true := by simp [o]
                        have hsh : shapeB ⟨wh, pt, [⟨ov, nv, mk⟩]⟩ = false := by rw [shape_one (c := ⟨wh, pt, [⟨ov, nv, mk⟩]⟩) k23 rfl H0.out, decide_eq_false o]; rfl
                        have HE : Hid (patchFault t = (0, 2)) := by rw [Hid, hG.out]; exact pg_bad HD.out (.inr (HCF.out.2 hsh)) (.inl hsh) HCF.out.2
                        clear hG hsh k1 k23 o
                        go_wp2_with fail
                        go_ret2
                        exact ⟨by rw [HE.out]; rfl, hcE.trans hAx⟩
              · obtain ⟨k', rfl⟩ : ∃ k', k = k' + 1 := ⟨k - 1, by omega⟩
                obtain ⟨y, hy⟩ : ∃ y, t[k']? = some y := ⟨t[k']'(by omega), by simp [show k' < t.length by omega]⟩
                obtain ⟨b', off', lv', hbo, _, _, _, y0, _, _, _⟩ := elems_change h3 hy
                simp only [Option.some.injEq, Addr.mk.injEq, and_true] at hbo
                obtain ⟨rfl, rfl⟩ := hbo
                have y0 := hcD.cellNever y0
                have HPY : Hid (prevC t (k' + 1) = some y.path) := prevC_succ hy
                have z1 : (k' : Int) + 1 - 1 = k' := by omega
                have z2 : decide ((0 : Int) < (k' : Int) + 1) = true := decide_eq_true (by omega)
                clear hy
                rcases less_tri pt y.path with g | g | g
                · have HO : Hid ((prevC t (k' + 1)).any (fun p => leqB pt p) = true) := by rw [Hid, HPY.out]; exact leqB_true.2 (less_asymm g)
                  have a1 : Op.bytesLess pt.toList y.path.toList = true := g
                  clear g
                  have HE : Hid (patchFault t = (k' + 1, 2)) := by
                    rw [Hid, hG.out]
                    refine pg_bad HD.out ?_ (.inr HO.out) HCF.out.2
                    cases hsb : shapeB ⟨wh, pt, hs⟩ with
                    | true => exact .inl (HCF.out.1 hsb)
                    | false => exact .inr (HCF.out.2 hsb)
                  clear hG
                  by_cases k1 : wh = 1
                  · subst k1
                    by_cases hs0 : hs = []
                    · subst hs0
                      go_wp2_with fail
                      go_quiet (fail)
                      go_wp2_with fail
                      go_ret2
                      exact ⟨by rw [HE.out]; rfl, hcD.drewN _⟩
                    · have t0 : ((hs.length : Int) == 0) = false := beq_eq_false_iff_ne.2 (by have := List.length_pos_iff.2 hs0; omega)
                      clear hs0
                      go_wp2_with fail
                      go_quiet (fail)
                      go_wp2_with fail
                      go_ret2
                      exact ⟨by rw [HE.out]; rfl, hcD.drewN _⟩
                  · have t1 : (wh == 1) = false := by simp [k1]
                    have t1' : (wh != 1) = true := by simp [k1]
                    clear k1
                    by_cases gm : (1 : Int) < hs.length
                    · have gm' := decide_eq_true gm
                      go_wp2_with fail
                      go_quiet (fail)
                      go_wp2_with fail
                      go_ret2
                      exact ⟨by rw [HE.out]; rfl, hcD.drewN _⟩
                    · have gm' := decide_eq_false gm
                      go_wp2_with fail
                      go_quiet (fail)
                      go_wp2_with fail
                      go_ret2
                      exact ⟨by rw [HE.out]; rfl, hcD.drewN _⟩
                · have HO : Hid ((prevC t (k' + 1)).any (fun p => leqB pt p) = true) := by rw [Hid, HPY.out]; exact leqB_true.2 (by rw [g]; exact less_irrefl _)
                  have a1 : Op.bytesLess pt.toList y.path.toList = false := by rw [g]; exact bl_irrefl _
                  have a2 : (pt.toList == y.path.toList) = true := by rw [g]; exact beq_self_eq_true _
                  clear g
                  have HE : Hid (patchFault t = (k' + 1, 2)) := by
                    rw [Hid, hG.out]
                    refine pg_bad HD.out ?_ (.inr HO.out) HCF.out.2
                    cases hsb : shapeB ⟨wh, pt, hs⟩ with
                    | true => exact .inl (HCF.out.1 hsb)
                    | false => exact .inr (HCF.out.2 hsb)
                  clear hG
                  by_cases k1 : wh = 1
                  · subst k1
                    by_cases hs0 : hs = []
                    · subst hs0
                      go_wp2_with fail
                      go_quiet (fail)
                      go_wp2_with fail
                      go_ret2
                      exact ⟨by rw [HE.out]; rfl, hcD.drewN _⟩
                    · have t0 : ((hs.length : Int) == 0) = false := beq_eq_false_iff_ne.2 (by have := List.length_pos_iff.2 hs0; omega)
                      clear hs0
                      go_wp2_with fail
                      go_quiet (fail)
                      go_wp2_with fail
                      go_ret2
                      exact ⟨by rw [HE.out]; rfl, hcD.drewN _⟩
                  · have t1 : (wh == 1) = false := by simp [k1]
                    have t1' : (wh != 1) = true := by simp [k1]
                    clear k1
                    by_cases gm : (1 : Int) < hs.length
                    · have gm' := decide_eq_true gm
                      go_wp2_with fail
                      go_quiet (fail)
                      go_wp2_with fail
                      go_ret2
                      exact ⟨by rw [HE.out]; rfl, hcD.drewN _⟩
                    · have gm' := decide_eq_false gm
                      go_wp2_with fail
                      go_quiet (fail)
                      go_wp2_with fail
                      go_ret2
                      exact ⟨by rw [HE.out]; rfl, hcD.drewN _⟩
                · have HO : Hid ((prevC t (k' + 1)).any (fun p => leqB pt p) = false) := by
                    rw [Hid, HPY.out, Option.any_some, Bool.eq_false_iff]
                    intro e
                    rw [leqB_true.1 e] at g; cases g
                  have a1 : Op.bytesLess pt.toList y.path.toList = false := less_asymm g
                  have a2 := str_beq_false (less_ne g).symm
                  clear g
                  by_cases k1 : wh = 1
                  · subst k1
                    by_cases hs0 : hs = []
                    · subst hs0
                      have hsh : shapeB ⟨1, pt, []⟩ = false := shape_edit0 rfl rfl
                      have HE : Hid (patchFault t = (k' + 1, 2)) := by rw [Hid, hG.out]; exact pg_bad HD.out (.inr (HCF.out.2 hsh)) (.inl hsh) HCF.out.2
                      clear hG hsh
                      go_wp2_with fail
                      go_quiet (fail)
                      go_wp2_with fail
                      go_ret2
                      exact ⟨by rw [HE.out]; rfl, hcD.drewN _⟩
                    · have t0 : ((hs.length : Int) == 0) = false := beq_eq_false_iff_ne.2 (by have := List.length_pos_iff.2 hs0; omega)
                      have hsh : shapeB ⟨1, pt, hs⟩ = true := shape_edit rfl hs0
                      have HNX : Hid (patchFault t = patchGo (k' + 1 + 1) (prevC t (k' + 1 + 1)) (t.drop (k' + 1 + 1))) := by rw [Hid, HPV.out, hG.out]; exact patchGo_next HD.out (HCF.out.1 hsh) HO.out
                      clear hs0 hG hsh
                      go_wp2_with fail
                      go_quiet (fail)
                      generalize hqq : World.drewN w5 _ = w6
                      have hq : Chg Never w5 w6 := hqq ▸ (Chg.refl Never w5).drewN _
                      clear hqq
                      have hcE := hcD.trans hq
                      have d0 := hq.cellNever d0
                      have d1 := hq.cellNever d1
                      have d2 := hq.cellNever d2
                      clear hq hcD
                      go_wp2_with fail
                      go_roundw
                      case rel => exact ⟨k' + 1 + 1, by omega, by go_num, hcE, HNX.out⟩
                      case measure => simp [intOf] <;> omega
                  · have t1 : (wh == 1) = false := by simp [k1]
                    have t1' : (wh != 1) = true := by simp [k1]
                    have k23 : wh = 2 ∨ wh = 3 := by omega
                    by_cases gm : (1 : Int) < hs.length
                    · have gm' := decide_eq_true gm
                      have hsh : shapeB ⟨wh, pt, hs⟩ = false := shape_many k23 (by show 2 ≤ hs.length; omega)
                      have HE : Hid (patchFault t = (k' + 1, 2)) := by rw [Hid, hG.out]; exact pg_bad HD.out (.inr (HCF.out.2 hsh)) (.inl hsh) HCF.out.2
                      clear hG hsh k1 k23
                      go_wp2_with fail
                      go_quiet (fail)
                      go_wp2_with fail
                      go_ret2
                      exact ⟨by rw [HE.out]; rfl, hcD.drewN _⟩
                    · have gm' := decide_eq_false gm
                      by_cases hs0 : hs = []
                      · subst hs0
                        have hsh : shapeB ⟨wh, pt, []⟩ = true := shape_none k23 rfl
                        have HNX : Hid (patchFault t = patchGo (k' + 1 + 1) (prevC t (k' + 1 + 1)) (t.drop (k' + 1 + 1))) := by rw [Hid, HPV.out, hG.out]; exact patchGo_next HD.out (HCF.out.1 hsh) HO.out
                        clear hG hsh k1 k23 gm gm'
                        go_wp2_with fail
                        go_quiet (fail)
                        generalize hqq : World.drewN w5 _ = w6
                        have hq : Chg Never w5 w6 := hqq ▸ (Chg.refl Never w5).drewN _
                        clear hqq
                        have hcE := hcD.trans hq
                        have d0 := hq.cellNever d0
                        have d1 := hq.cellNever d1
                        have d2 := hq.cellNever d2
                        clear hq hcD
                        go_wp2_with fail
                        go_roundw
                        case rel => exact ⟨k' + 1 + 1, by omega, by go_num, hcE, HNX.out⟩
                        case measure => simp [intOf] <;> omega
                      · obtain ⟨x, rfl⟩ : ∃ x, hs = [x] := by
                          match hs, hs0, gm with
                          | [x], _, _ => exact ⟨x, rfl⟩
                          | a :: b :: r, _, gm => exact absurd (by simp; omega) gm
                        clear gm gm' hs0
                        obtain ⟨ov, nv, mk⟩ := x
                        have HMK : Hid (scriptFault mk = 0) := hOk_mem _ _ _ (hunksFault_zero H0.out).2 ⟨ov, nv, mk⟩ (List.mem_singleton.2 rfl)
                        go_wp2_with fail
                        go_quiet (fail)
                        generalize hqq : World.drewN w5 _ = w6
                        have hq : Chg Never w5 w6 := hqq ▸ (Chg.refl Never w5).drewN _
                        clear hqq
                        have hcE := hcD.trans hq
                        have d0 := hq.cellNever d0
                        have d1 := hq.cellNever d1
                        have d2 := hq.cellNever d2
                        clear hq hcD
                        obtain ⟨xb, xo, xv, hxa, _, _, x0, x1, x2, hmv⟩ := elems_hunk hlh (i := 0) rfl
                        subst hxa
                        simp only [Nat.zero_mul, Nat.add_zero] at x0 x1 x2 hmv
                        have x0 := hcE.cellNever x0
                        have x1 := hcE.cellNever x1
                        have x2 := hcE.cellNever x2
                        obtain ⟨xa, xc, rfl, _, _, _⟩ := rdv_slice hmv
                        by_cases o : ov = 0
                        · subst o
                          have hBx := Blk3.new w6 42 (.int .i64 0) (.int .i64 nv) (.slice xa mk.length xc)
                          have hAx : Chg Never w6 (w6.alloc (.cells #[.int .i64 0, .int .i64 nv, .slice xa mk.length xc] 42)) := (Chg.refl Never w6).alloc _
                          rcases k23 with k2 | k3
                          · subst k2
                            clear t1 t1' k1
                            go_upto_region 18 with fail
                            generalize w6.alloc (.cells #[.int .i64 0, .int .i64 nv, .slice xa mk.length xc] 42) = w7 at hBx hAx ⊢
                            clear x0 x1 x2
                            obtain ⟨x0, _, x2⟩ := hBx.cell
                            have d0 := hAx.cellNever d0
                            go_wp2_with fail
                            refine (refOld_any mk _ _ (hmv.never (hcE.trans hAx)) HMK.out).mono ?_
                            rintro e w8 ⟨r8, rfl, hc8, hr8⟩
                            obtain ⟨ra, rc, rfl, _, _, _⟩ := rdv_slice hr8
                            have hcE := (hcE.trans hAx).trans hc8
                            have d0 := hc8.cellNever d0
                            have x0 := hc8.cellNever x0
                            have x2 := hc8.cellNever x2
                            clear hr8 hc8 hAx d1 d2
                            by_cases n0 : (those mk 43).length = 0
                            · have hsh : shapeB ⟨2, pt, [⟨0, nv, mk⟩]⟩ = true := by
                                rw [shape_one (c := ⟨2, pt, [⟨0, nv, mk⟩]⟩) (.inl rfl) rfl H0.out, decide_eq_true (show (⟨0, nv, mk⟩ : Hunk).old = 0 from rfl)]
                                exact decide_eq_true n0
                              have HNX : Hid (patchFault t = patchGo (k' + 1 + 1) (prevC t (k' + 1 + 1)) (t.drop (k' + 1 + 1))) := by rw [Hid, HPV.out, hG.out]; exact patchGo_next HD.out (HCF.out.1 hsh) HO.out
                              have n0' : ¬ (0 : Int) < (those mk 43).length := by omega
                              have n0'' := decide_eq_false n0'
                              have n0n : ¬ 0 < (those mk 43).length := by omega
                              clear hG hsh n0
                              go_wp2_with fail
                              go_roundw
                              case rel => exact ⟨k' + 1 + 1, by omega, by go_num, hcE, HNX.out⟩
                              case measure => simp [intOf] <;> omega
                            · have hsh : shapeB ⟨2, pt, [⟨0, nv, mk⟩]⟩ = false := by
                                rw [shape_one (c := ⟨2, pt, [⟨0, nv, mk⟩]⟩) (.inl rfl) rfl H0.out, decide_eq_true (show (⟨0, nv, mk⟩ : Hunk).old = 0 from rfl)]
                                exact decide_eq_false n0
                              have HE : Hid (patchFault t = (k' + 1, 2)) := by rw [Hid, hG.out]; exact pg_bad HD.out (.inr (HCF.out.2 hsh)) (.inl hsh) HCF.out.2
                              have n0' : (0 : Int) < (those mk 43).length := by omega
                              have n0'' := decide_eq_true n0'
                              have n0n : 0 < (those mk 43).length := by omega
                              clear hG hsh n0
                              go_wp2_with fail
                              go_ret2
                              exact ⟨by rw [HE.out]; rfl, hcE⟩
                          · subst k3
                            clear t1 t1' k1
                            go_upto_region 18 with fail
                            generalize w6.alloc (.cells #[.int .i64 0, .int .i64 nv, .slice xa mk.length xc] 42) = w7 at hBx hAx ⊢
                            clear x0 x1 x2
                            obtain ⟨x0, _, x2⟩ := hBx.cell
                            have d0 := hAx.cellNever d0
                            go_wp2_with fail
                            refine (refNew_any mk _ _ (hmv.never (hcE.trans hAx)) HMK.out).mono ?_
                            rintro e w8 ⟨r8, rfl, hc8, hr8⟩
                            obtain ⟨ra, rc, rfl, _, _, _⟩ := rdv_slice hr8
                            have hcE := (hcE.trans hAx).trans hc8
                            have d0 := hc8.cellNever d0
                            have x0 := hc8.cellNever x0
                            have x2 := hc8.cellNever x2
                            clear hr8 hc8 hAx d1 d2
                            by_cases n0 : (those mk 45).length = 0
                            · have hsh : shapeB ⟨3, pt, [⟨0, nv, mk⟩]⟩ = true := by
                                rw [shape_one (c := ⟨3, pt, [⟨0, nv, mk⟩]⟩) (.inr rfl) rfl H0.out, decide_eq_true (show (⟨0, nv, mk⟩ : Hunk).old = 0 from rfl)]
                                exact decide_eq_true n0
                              have HNX : Hid (patchFault t = patchGo (k' + 1 + 1) (prevC t (k' + 1 + 1)) (t.drop (k' + 1 + 1))) := by rw [Hid, HPV.out, hG.out]; exact patchGo_next HD.out (HCF.out.1 hsh) HO.out
                              have n0' : ¬ (0 : Int) < (those mk 45).length := by omega
                              have n0'' := decide_eq_false n0'
                              have n0n : ¬ 0 < (those mk 45).length := by omega
                              clear hG hsh n0
                              go_wp2_with fail
                              go_roundw
                              case rel => exact ⟨k' + 1 + 1, by omega, by go_num, hcE, HNX.out⟩
                              case measure => simp [intOf] <;> omega
                            · have hsh : shapeB ⟨3, pt, [⟨0, nv, mk⟩]⟩ = false := by
                                rw [shape_one (c := ⟨3, pt, [⟨0, nv, mk⟩]⟩) (.inr rfl) rfl H0.out, decide_eq_true (show (⟨0, nv, mk⟩ : Hunk).old = 0 from rfl)]
                                exact decide_eq_false n0
                              have HE : Hid (patchFault t = (k' + 1, 2)) := by rw [Hid, hG.out]; exact pg_bad HD.out (.inr (HCF.out.2 hsh)) (.inl hsh) HCF.out.2
                              have n0' : (0 : Int) < (those mk 45).length := by omega
                              have n0'' := decide_eq_true n0'
                              have n0n : 0 < (those mk 45).length := by omega
                              clear hG hsh n0
                              go_wp2_with fail
                              go_ret2
                              exact ⟨by rw [HE.out]; rfl, hcE⟩
                        · have o0 : (ov == 0) = false := by simp [o]
                          have hBx := Blk3.new w6 42 (.int .i64 ov) (.int .i64 nv) (.slice xa mk.length xc)
                          have hAx : Chg Never w6 (w6.alloc (.cells #[.int .i64 ov, .int .i64 nv, .slice xa mk.length xc] 42)) := (Chg.refl Never w6).alloc _
                          have o1 : (ov != 0) = true := by simp [o]
                          have hsh : shapeB ⟨wh, pt, [⟨ov, nv, mk⟩]⟩ = false := by rw [shape_one (c := ⟨wh, pt, [⟨ov, nv, mk⟩]⟩) k23 rfl H0.out, decide_eq_false o]; rfl
                          have HE : Hid (patchFault t = (k' + 1, 2)) := by rw [Hid, hG.out]; exact pg_bad HD.out (.inr (HCF.out.2 hsh)) (.inl hsh) HCF.out.2
                          clear hG hsh k1 k23 o
                          go_wp2_with fail
                          go_ret2
                          exact ⟨by rw [HE.out]; rfl, hcE.trans hAx⟩
            · have HE : Hid (patchFault t = (k, (hunksFault hs).2)) := by rw [Hid, hG.out, patchGo_bad HD.out (by rw [cf_hunks (c := ⟨wh, pt, hs⟩) r z y]; exact y), cf_hunks (c := ⟨wh, pt, hs⟩) r z y]
              have y0 : ((hunksFault hs).2 == 0) = false := by simp [y]
              have y1 : ((hunksFault hs).2 != 0) = true := by simp [y]
              clear r z y hG
              go_wp2_with fail
              generalize wr.alloc (.cells #[.int .i64 wh, .string pt, .slice la hs.length lcap] 79) = w3 at hA d0 d1 d2 ⊢
              have hc3 := hc.trans hA
              clear hA c0 c1 c2
              refine (refPath_any pt _).mono ?_
              rintro e w4 ⟨rfl, hc4⟩
              have d0 := hc4.cellNever d0
              have d1 := hc4.cellNever d1
              have d2 := hc4.cellNever d2
              have hcD := hc3.trans hc4
              clear hc3 hc4
              rw [P0.out]
              go_wp2_with fail
              refine (refHunks_any hs _ _ (hlv.never hcD)).mono ?_
              rintro e w5 ⟨rfl, hc5⟩
              have d0 := hc5.cellNever d0
              have d1 := hc5.cellNever d1
              have d2 := hc5.cellNever d2
              have hcD := hcD.trans hc5
              clear hc5
              go_wp2_with fail
              go_ret2
              exact ⟨by rw [HE.out]; rfl, hcD⟩
          · have HE : Hid (patchFault t = (k, pathFault pt)) := by rw [Hid, hG.out, patchGo_bad HD.out (by rw [cf_path (c := ⟨wh, pt, hs⟩) r z]; exact z), cf_path (c := ⟨wh, pt, hs⟩) r z]
            have z0 : (pathFault pt == 0) = false := by simp [z]
            have z1 : (pathFault pt != 0) = true := by simp [z]
            clear r z hG
            go_wp2_with fail
            generalize wr.alloc (.cells #[.int .i64 wh, .string pt, .slice la hs.length lcap] 79) = w3 at hA d0 d1 d2 ⊢
            have hc3 := hc.trans hA
            clear hA c0 c1 c2
            refine (refPath_any pt _).mono ?_
            rintro e w4 ⟨rfl, hc4⟩
            have d0 := hc4.cellNever d0
            have d1 := hc4.cellNever d1
            have d2 := hc4.cellNever d2
            have hcD := hc3.trans hc4
            clear hc3 hc4
            go_wp2_with fail
            go_ret2
            exact ⟨by rw [HE.out]; rfl, hcD⟩
      · obtain rfl : k = t.length := by omega
        have e := hG.out
        rw [patchGo_end] at e
        have HE := Lib.hid e
        clear hG e
        go_wp2_with fail
        go_ret2
        exact ⟨by rw [HE.out]; rfl, hc⟩
end Go.Proofs.YtmojaahkcpgfkaaGreatDoor
namespace Go.Proofs.YtmojaahkcpgfkaaGreatDoor
open Go.RowKit

theorem run_many2 {P : Program} {α : Type} [Dat α] {t ty e : TypeId} (hP : ElemOk P t e (Dat.n α)) {w0 : World} {O : Nat → Prop} {v x : Value} {l m : List α}
    (hown : Own e w0 O v l) (hx : Rdv w0 (fun k => O k ∨ v.ownBlock = some k) x m) (hO : ∀ k, O k → k < w0.heap.size) (hlen : l.length + m.length ≤ 1000000000) :
    ∃ v' w', (Builtin.append_ #[t, t] ty #[v, x]).run P w0 = .ok v' w' ∧ Own e w' O v' (l ++ m) ∧ Chg (OwnB v) w0 w' ∧ (∀ k, v'.ownBlock = some k → v.ownBlock = some k ∨ w0.heap.size ≤ k) := by
  obtain ⟨a, cap, rfl, c1, c2, hel⟩ := rdv_slice hx
  rcases Nat.eq_zero_or_pos m.length with h0 | hpos
  · have : m = [] := List.eq_nil_of_length_eq_zero h0
    subst this
    refine ⟨v, w0, ?_, by rw [List.append_nil]; exact hown, Chg.refl _ _, fun k hk => .inl hk⟩
    obtain ⟨xs, hrow, _⟩ := hown
    exact run_append_empty hP hrow a cap
  · obtain ⟨b, off, rfl⟩ : ∃ b off, a = some ⟨b, off, none⟩ := by
      obtain ⟨b, off, es, ha, _⟩ := hel 0 m[0] (by simp [hpos])
      exact ⟨b, off, ha⟩
    obtain ⟨i, z, hi, hz, hsz, hzs, hby⟩ := hP.info
    obtain ⟨xs, hrow, hb, hels⟩ := id hown
    obtain ⟨news, n1, n2, n3, n4⟩ := elems_cells hel m.length (Nat.le_refl _)
    have hpos' := Dat.pos (α := α)
    have hcells : ∀ j u, news[j]? = some u → w0.cell? ((⟨b, off, none⟩ : Addr).add j) = some u := by
      intro j u hj
      have e1 : (⟨b, off, none⟩ : Addr).add j = ⟨b, off + j, none⟩ := by unfold Addr.add; split <;> simp_all
      rw [e1]
      exact n2 j u hj
    have hbound : (l.length + m.length) * i.bytes ≤ 140737488355328 := by
      have := Nat.mul_le_mul hlen hby
      omega
    obtain ⟨v', w', hrun, hown', hgrow, hnil⟩ := run_append_own (P := P) w0 0 t ty e i z (Dat.n α) i.bytes hP.ht hi hz hsz rfl hzs hpos' v l.length xs hrow
      ⟨b, off, none⟩ m.length cap news n1 hcells n3 (by unfold maxLen; omega) hbound (Nat.zero_le _)
    obtain ⟨kb, hkb, hkb'⟩ := append_block (P := P) w0 0 t ty e i z (Dat.n α) i.bytes hP.ht hi hz hsz rfl v l.length xs hrow
      ⟨b, off, none⟩ m.length cap news n1 hcells n3 (by unfold maxLen; omega) hbound (by omega) hrun
    have hc : Chg (OwnB v) w0 w' := Chg.of_grown hgrow
    have hsub : ∀ k, k < w0.heap.size → (O k ∨ v'.ownBlock = some k) → (O k ∨ v.ownBlock = some k) := by
      rintro k hk (h | h)
      · exact .inl h
      · rw [hkb] at h
        injection h with h
        subst h
        rcases hkb' with h | h
        · exact .inr h
        · omega
    refine ⟨v', w', hrun, ⟨xs ++ news, ?_, ?_, ?_⟩, hc, fun k hk => by rw [hkb] at hk; injection hk with hk; subst hk; exact hkb'.imp_right (fun h => Nat.le_of_eq h.symm)⟩
    · rw [List.length_append]; exact hown'
    · intro k hk ho
      rw [hkb] at hk
      injection hk with hk
      subst hk
      rcases hkb' with h | h
      · exact hb _ h ho
      · exact absurd (hO _ ho) (by omega)
    · intro j y hj
      have hxl : xs.length = l.length * Dat.n α := hrow.1
      rcases Nat.lt_or_ge j l.length with hjl | hjl
      · rw [List.getElem?_append_left hjl] at hj
        have hle : j * Dat.n α + Dat.n α ≤ xs.length := by rw [hxl, ← Nat.succ_mul]; exact Nat.mul_le_mul_right _ hjl
        rw [List.drop_append_of_le_length (by omega), List.take_append_of_le_length (by rw [List.length_drop]; omega)]
        exact Dat.keep (hels j y hj) hc (fun k _ hk => .inr hk) hsub
      · rw [List.getElem?_append_right hjl] at hj
        have hjm := (List.getElem?_eq_some_iff.1 hj).1
        have e1 : (xs ++ news).drop (j * Dat.n α) = news.drop ((j - l.length) * Dat.n α) := by
          have e2 : j * Dat.n α = xs.length + (j - l.length) * Dat.n α := by rw [hxl, ← Nat.add_mul]; congr 1; omega
          rw [e2, List.drop_append]
          simp
        rw [e1]
        exact Dat.keep (n4 _ y hjm hj) hc (fun k _ hk => .inr hk) hsub

theorem wpList_many2 {P : Program} {ops : Array Oper} {rest : List Oper} {o : Oper} {a : Act} {Q : Exit → Act → World → Prop} (hgd : o.guard = none) (s x : Operand) (t : TypeId)
    (ho : o.op = .call { callee := .builtin .append, args := #[s, x], argTypes := #[t, t] }) {α : Type} [Dat α] {e : TypeId} (hP : ElemOk P t e (Dat.n α)) {w0 : World} {O : Nat → Prop} {v u : Value} {l m : List α}
    (hs : a.eval s = v) (hx : a.eval x = u) (hown : Own e w0 O v l) (hu : Rdv w0 (fun k => O k ∨ v.ownBlock = some k) u m) (hO : ∀ k, O k → k < w0.heap.size) (hlen : l.length + m.length ≤ 1000000000)
    (h : ∀ v' w', Own e w' O v' (l ++ m) → Chg (OwnB v) w0 w' → (∀ k, v'.ownBlock = some k → v.ownBlock = some k ∨ w0.heap.size ≤ k) → wpList P ops Q rest (a.put o.dst v') w') :
    wpList P ops Q (o :: rest) a w0 := by
  refine wpList_plain hgd fun K hK => ?_
  obtain ⟨v', w', hrun, h1, h2, h3⟩ := run_many2 (ty := o.type) hP hown hu hO hlen
  unfold Oper.wp execOp
  simp only [ho, resolve, invoke, builtin, Sem.run_bind, Sem.run_pure, Result.andThen_ok, List.map_toArray, List.map_cons, List.map_nil, hs, hx, hrun]
  exact hK _ _ (h v' w' h1 h2 h3)

/-- v owns its row, which has come since w0; its elements may lie wherever -/
structure OwnN {α : Type} [Dat α] (e : TypeId) (w0 wr : World) (v : Value) (l : List α) : Prop where
  own : Own e wr Never v l
  new : ∀ k, v.ownBlock = some k → w0.heap.size ≤ k
  chg : Chg Never w0 wr
theorem ownN_nil {α : Type} [Dat α] (e : TypeId) {w0 wr : World} (h : Chg Never w0 wr) : OwnN e w0 wr (.slice none 0 0) ([] : List α) :=
  ⟨own_nil _ _ _, fun k hk => by simp [Value.ownBlock] at hk, h⟩
theorem OwnN.step {α : Type} [Dat α] {e : TypeId} {w0 wr w' : World} {v v' : Value} {l l' : List α} (h : OwnN e w0 wr v l) (hown : Own e w' Never v' l') (hc : Chg (OwnB v) wr w') (hk : ∀ k, v'.ownBlock = some k → v.ownBlock = some k ∨ wr.heap.size ≤ k) : OwnN e w0 w' v' l' :=
  ⟨hown, fun k hk' => (hk k hk').elim (h.new k) (fun hh => Nat.le_trans h.chg.size hh), h.chg.trans' hc (fun i hi hh => absurd (h.new i hh) (by omega))⟩
theorem OwnN.step1 {α : Type} [Dat α] {e : TypeId} {w0 wr w' : World} {v v' : Value} {l l' : List α} (h : OwnN e w0 wr v l) (hown : Own e w' Never v' l') (hc : Chg (OwnB v) wr w') (hk : ∃ k, v'.ownBlock = some k ∧ (v.ownBlock = some k ∨ wr.heap.size ≤ k)) : OwnN e w0 w' v' l' :=
  h.step hown hc (fun k hk' => by
    obtain ⟨j, h1, h2⟩ := hk
    rw [h1] at hk'
    injection hk' with hk'
    subst hk'
    exact h2)
theorem OwnN.never {α : Type} [Dat α] {e : TypeId} {w0 wr w' : World} {v : Value} {l : List α} (h : OwnN e w0 wr v l) (hc : Chg Never wr w') : OwnN e w0 w' v l := ⟨h.own.never hc, h.new, h.chg.trans hc⟩
/-- what was there at the beginning does not lie in the row -/
theorem OwnN.away {α β : Type} [Dat α] [Dat β] {e : TypeId} {w0 wr : World} {v u : Value} {l : List α} {x : β} (h : OwnN e w0 wr v l) (hu : Rdv w0 Never u x) : Rdv wr (fun k => Never k ∨ v.ownBlock = some k) u x :=
  (hu.sub (O' := fun k => Never k ∨ v.ownBlock = some k) (fun k hk hh => by
    rcases hh with hh | hh
    · exact hh
    · exact absurd (h.new k hh) (by omega))).never h.chg
end Go.Proofs.YtmojaahkcpgfkaaGreatDoor
namespace Go.Proofs.YtmojaahkcpgfkaaGreatDoor
open Go.RowKit

/-- what has come since does not lie in the row -/
theorem OwnN.fresh {α β : Type} [Dat α] [Dat β] {e : TypeId} {w0 wr w' : World} {v u : Value} {l : List α} {x : β} (h : OwnN e w0 wr v l) (hu : Rdv w' (Old wr.heap.size) u x) : Rdv w' (fun k => Never k ∨ v.ownBlock = some k) u x :=
  hu.sub (fun k _ hh => by
    rcases hh with hh | hh
    · exact hh.elim
    · exact own_block_lt h.own k hh)
end Go.Proofs.YtmojaahkcpgfkaaGreatDoor
namespace Go.Proofs.YtmojaahkcpgfkaaGreatDoor
open Go.RowKit

def bytesL (l : List ByteArray) : List (List UInt8) := l.map fun x => x.data.toList
def chgsL (l : List ByteArray) : Option (List Change) := changesG (bytesL l).length (bytesL l)
theorem bytesL_drop (l : List ByteArray) (i : Nat) : (bytesL l).drop i = bytesL (l.drop i) := (List.map_drop ..).symm
def sliceLenOf : Value → Nat
  | .slice _ n _ => n
  | _ => 0
/-- what the two lines' reading says -/
def HeadIs (H : Option (Int × List UInt8)) (K : Int) (P : ByteArray) (B : Bool) : Prop := (B = false ∧ H = none) ∨ (B = true ∧ ∃ p, H = some (K, p) ∧ P = toB p)
theorem headed_is (a b : ByteArray) (w : World) (ha : a.size ≤ 1000000000) (hb : b.size ≤ 1000000000) :
    Calls Tryz.prog 57 #[.string a, .string b] w fun e w' => ∃ K P B, e = .returned (.tuple #[.agg #[.int .i64 K, .string P, .slice none 0 0], .bool B]) ∧ Chg Never w w' ∧ Hid (HeadIs (headedL a.data.toList b.data.toList) K P B) := by
  refine (headed_any a b w ha hb).mono ?_
  rintro e w' ⟨hc, hp⟩
  cases hh : headedL a.data.toList b.data.toList with
  | none =>
    rw [hh] at hp
    exact ⟨_, _, _, hp, hc, .inl ⟨rfl, rfl⟩⟩
  | some x =>
    obtain ⟨c, p⟩ := x
    rw [hh] at hp
    exact ⟨_, _, _, hp, hc, .inr ⟨rfl, p, rfl, rfl⟩⟩
theorem headed_len {a b p : List UInt8} {c : Int} (h : headedL a b = some (c, p)) : p.length ≤ a.length + b.length := by
  obtain ⟨hw, e1, e2⟩ := headed_some h
  have l1 := congrArg List.length e1
  have l2 := congrArg List.length e2
  rw [List.length_append] at l1 l2
  rcases hw with rfl | rfl | rfl
  · rw [show fromL 1 p = [97, 47] ++ p from rfl, List.length_append] at l1; omega
  · rw [show toL 2 p = [98, 47] ++ p from rfl, List.length_append] at l2; omega
  · rw [show fromL 3 p = [97, 47] ++ p from rfl, List.length_append] at l1; omega
theorem rdv_tail {w : World} {O : Nat → Prop} {a : Option Addr} {n cap k : Nat} {l : List ByteArray} (h : Rdv w O (.slice a n cap) l) (hn : n = l.length) (hk : k ≤ l.length) :
    ∃ b, (∀ (wx : World), (Instr.slice 56 (.slice a n cap) (some (.int .i64 (k : Nat))) none none).run Tryz.prog wx = .ok (.slice b (n - k) (cap - k)) wx) ∧ Rdv w O (.slice b (n - k) (cap - k)) (l.drop k) := by
  subst hn
  obtain ⟨b, _, h2, _, h4⟩ := slice_g (P := Tryz.prog) (t := 56) (by kernel_rfl) size_str h k l.length hk (Nat.le_refl _)
  exact ⟨b, fun wx => h2 (k : Nat) wx rfl rfl, by rw [List.take_of_length_le (by rw [List.length_drop]; omega)] at h4; exact h4⟩

theorem ckeep {w2 wr wq : World} {p q : Addr} {a b : Value} (h : Chg Never w2 wr ∧ wr.cell? p = some a ∧ wr.cell? q = some b) (k : Chg Never wr wq) : Chg Never w2 wq ∧ wq.cell? p = some a ∧ wq.cell? q = some b :=
  ⟨h.1.trans k, k.cellNever h.2.1, k.cellNever h.2.2⟩
set_option maxHeartbeats 2000000 in
set_option maxRecDepth 100000 in
theorem gitchanges_any (l : List ByteArray) (v : Value) (w : World) (h : Rdv w Never v l) (hl : l.length ≤ 1000000) (hs : ∀ x ∈ l, x.size ≤ 1000000000) (m : Int) (hg : Globs w m) :
    Calls Tryz.prog 39 #[v] w fun e w' => ∃ r, e = .returned (.tuple #[r, .bool (chgsL l).isSome]) ∧ Chg Never w w' ∧ Rdv w' Never r ((chgsL l).getD []) := by
  obtain ⟨a, cap, rfl, h1, h2, -⟩ := rdv_slice h
  unfold maxLen at h2
  have HS := Lib.hid hs
  clear hs
  go_enter Tryz.func39, Tryz.ntmps39
  go_wp2_with fail
  go_loopw [0, 4] (fun bv ov wr => ∃ (i : Nat) (L : List Change), i ≤ l.length ∧ Rdv w Never bv (l.drop i) ∧ OwnN 79 w wr ov L ∧ L.length ≤ i ∧ Hid (ChgsInv (bytesL l) i L)) (fun bv _ _ => sliceLenOf bv)
  case atStart => exact ⟨0, [], Nat.zero_le _, h, ownN_nil _ (Chg.refl Never w), Nat.le_refl _, cinv_start _⟩
  case round =>
    clear h
    obtain ⟨i, L, hi, hb, hn, hLl, hI⟩ := hrel
    rename World => wr
    obtain ⟨oa, on, oc, rfl⟩ := own_isSlice hn.own
    obtain ⟨ab, capb, rfl, b1, b2, b3⟩ := rdv_slice hb
    unfold maxLen at b2
    have hdl : (l.drop i).length = l.length - i := List.length_drop
    have HD := Lib.hid (bytesL_drop l i)
    cases hR : l.drop i with
    | nil =>
      have hr : Hid (chgsL l = some L) := cinv_end hI.out (by rw [hR] at hdl; simp at hdl; unfold bytesL; rw [List.length_map]; omega)
      clear hb b3 hdl HD
      go_wp2_with fail
      go_ret2
      exact ⟨_, by rw [hr.out]; rfl, hn.chg, by rw [hr.out]; exact hn.own.rdv⟩
    | cons x R1 =>
      cases R1 with
      | nil =>
        rw [hR] at hdl
        simp only [List.length_cons, List.length_nil] at hdl
        clear hb b3 HD
        have hr : Hid (chgsL l = none) := cinv_one hI.out (by unfold bytesL; rw [List.length_map]; omega)
        go_wp2_with fail
        go_ret2
        exact ⟨_, by rw [hr.out]; rfl, hn.chg, by rw [hr.out]; exact rdv_nil _ _⟩
      | cons y R2 =>
        have zx := HS.out x (List.mem_of_mem_drop (i := i) (by rw [hR]; simp))
        have zy := HS.out y (List.mem_of_mem_drop (i := i) (by rw [hR]; simp))
        have HD2 : Hid ((bytesL l).drop i = x.data.toList :: y.data.toList :: bytesL R2) := by rw [Hid, HD.out, hR]; rfl
        rw [hR] at hb b1 b3 hdl
        obtain ⟨g, off, rfl, -, -, c0, -⟩ := elems_str b3 (i := 0) (x := x) rfl
        obtain ⟨g', off', hq, -, -, c1, -⟩ := elems_str b3 (i := 1) (x := y) rfl
        simp only [Option.some.injEq, Addr.mk.injEq, and_true] at hq
        obtain ⟨rfl, rfl⟩ := hq
        have hdR : l.drop (i + 2) = R2 := by rw [← List.drop_drop, hR]; rfl
        obtain ⟨sb, hrun, hsub⟩ := rdv_tail hb rfl (k := 2) (by simp)
        have hn2 : 2 ≤ (x :: y :: R2).length := by simp
        have HR2 := Lib.hid hdR
        obtain ⟨n, hnn⟩ : ∃ n, (x :: y :: R2).length = n := ⟨_, rfl⟩
        rw [hnn] at hrun hsub hn2 hdl b1 ⊢
        have hsub : Rdv w Never (.slice sb (n - 2) (capb - 2)) (l.drop (i + 2)) := by rw [hdR]; exact hsub
        have hil : i + 2 ≤ l.length := by omega
        have hnl : n ≤ 1000000 := by omega
        simp only [Nat.add_zero] at c0
        have c0 := hn.chg.cellNever c0
        have c1 := hn.chg.cellNever c1
        have HN := Lib.hid hdl
        have hn1 : (1 : Int) < (n : Int) := by omega
        have hn0 : (0 : Int) < (n : Int) := by omega
        clear hb b3 hR hdR hnn HD hdl
        go_upto_region 5 with fail
        go_cut [5, 6] from 8 to 54 (fun p b wx => ∃ k K P B, p = .pointer (some ⟨k, 0, none⟩) ∧ b = .bool B ∧ wr.heap.size ≤ k ∧ Hid (Chg Never wr wx) ∧ Hid (HeadIs (headedL x.data.toList y.data.toList) K P B) ∧ Blk3 wx k 79 (.int .i64 K) (.string P) (.slice none 0 0))
        case first =>
          refine wp_region_held_drew (S := fun w' => Chg Never wr w' ∧ w'.cell? ⟨g, off, none⟩ = some (.string x) ∧ w'.cell? ⟨g, off + 1, none⟩ = some (.string y)) (by kernel_rfl) ⟨(Chg.refl Never wr).drew, c0, c1⟩ (fun hH => ?_)
          refine' wpAnyH_take (i := 0) ?hi0 (by kernel_rfl) (by kernel_rfl) (by kernel_rfl) ?hQ0 (Or.inl ⟨?hw0, ?hy0⟩) (by assumption) ?_
          case hi0 => (simp only [List.getElem?_toArray, List.getElem?_cons_zero]; rfl)
          case hQ0 => exact fun _ _ _ h => h
          case hw0 => rfl
          case hy0 => (intro w' hSw; (try dsimp only at hSw); go_simp; all_goals with_reducible rfl)
          try simp only [Act.put, List.setIfInBounds_toArray, List.set_cons_zero, List.set_cons_succ]
          refine' wpAnyH_take (i := 1) ?hi1 (by kernel_rfl) (by kernel_rfl) (by kernel_rfl) ?hQ1 (Or.inl ⟨?hw1, ?hy1⟩) (by assumption) ?_
          case hi1 => (simp only [List.getElem?_toArray, List.getElem?_cons_succ, List.getElem?_cons_zero]; rfl)
          case hQ1 => exact fun _ _ _ h => h
          case hw1 => rfl
          case hy1 => (intro w' hSw; (try dsimp only at hSw); go_simp; all_goals with_reducible rfl)
          try simp only [Act.put, List.setIfInBounds_toArray, List.set_cons_zero, List.set_cons_succ]
          refine' wpAnyH_take (i := 2) ?hi2 (by kernel_rfl) (by kernel_rfl) (by kernel_rfl) ?hQ2 (Or.inl ⟨?hw2, ?hy2⟩) (by assumption) ?_
          case hi2 => (simp only [List.getElem?_toArray, List.getElem?_cons_succ, List.getElem?_cons_zero]; rfl)
          case hQ2 => exact fun _ _ _ h => h
          case hw2 => rfl
          case hy2 => (intro w' hSw; (try dsimp only at hSw); go_simp; all_goals with_reducible rfl)
          try simp only [Act.put, List.setIfInBounds_toArray, List.set_cons_zero, List.set_cons_succ]
          refine' wpAnyH_take (i := 3) ?hi3 (by kernel_rfl) (by kernel_rfl) (by kernel_rfl) ?hQ3 (Or.inl ⟨?hw3, ?hy3⟩) (by assumption) ?_
          case hi3 => (simp only [List.getElem?_toArray, List.getElem?_cons_succ, List.getElem?_cons_zero]; rfl)
          case hQ3 => exact fun _ _ _ h => h
          case hw3 => rfl
          case hy3 => (intro w' hSw; (try dsimp only at hSw); go_simp; all_goals with_reducible rfl)
          try simp only [Act.put, List.setIfInBounds_toArray, List.set_cons_zero, List.set_cons_succ]
          refine' wpAnyH_take (i := 4) ?hi4 (by kernel_rfl) (by kernel_rfl) (by kernel_rfl) ?hQ4 (Or.inl ⟨?hw4, ?hy4⟩) (by assumption) ?_
          case hi4 => (simp only [List.getElem?_toArray, List.getElem?_cons_succ, List.getElem?_cons_zero]; rfl)
          case hQ4 => exact fun _ _ _ h => h
          case hw4 => rfl
          case hy4 => (intro w' hSw; (try dsimp only at hSw); go_simp; all_goals with_reducible rfl)
          try simp only [Act.put, List.setIfInBounds_toArray, List.set_cons_zero, List.set_cons_succ]
          refine' wpAnyH_take (i := 5) ?hi5 (by kernel_rfl) (by kernel_rfl) (by kernel_rfl) ?hQ5 (Or.inl ⟨?hw5, ?hy5⟩) (by assumption) ?_
          case hi5 => (simp only [List.getElem?_toArray, List.getElem?_cons_succ, List.getElem?_cons_zero]; rfl)
          case hQ5 => exact fun _ _ _ h => h
          case hw5 => rfl
          case hy5 => (intro w' hSw; (try dsimp only at hSw); go_simp; all_goals with_reducible rfl)
          try simp only [Act.put, List.setIfInBounds_toArray, List.set_cons_zero, List.set_cons_succ]
          refine wpAnyH_ready (rs := [6, 10]) (by kernel_rfl) (by simp) ?_
          refine AllReadyH.cons rfl (fun K hK => ?_) (AllReadyH.cons rfl (fun K hK => ?_) AllReadyH.nil)
          · go_simp
            go_at_call 57
            refine (headed_is x y _ zx zy).mono ?_
            rintro e wq ⟨K1, P, B, rfl, hcq, hHq⟩
            try go_wp2_with fail
            refine hK.out _ _ ?_ (fun hH => ?_)
            · exact ckeep (by assumption) hcq
            clear hK K
            try simp only [Act.put, List.setIfInBounds_toArray, List.set_cons_zero, List.set_cons_succ]
            refine' wpAnyH_take (i := 7) ?hi7 (by kernel_rfl) (by kernel_rfl) (by kernel_rfl) ?hQ7 (Or.inl ⟨?hw7, ?hy7⟩) (by assumption) ?_
            case hi7 => (simp only [List.getElem?_toArray, List.getElem?_cons_succ, List.getElem?_cons_zero]; rfl)
            case hQ7 => exact fun _ _ _ h => h
            case hw7 => rfl
            case hy7 => (intro w' hSw; (try dsimp only at hSw); go_simp; all_goals with_reducible rfl)
            try simp only [Act.put, List.setIfInBounds_toArray, List.set_cons_zero, List.set_cons_succ]
            refine' wpAnyH_take (i := 8) ?hi8 (by kernel_rfl) (by kernel_rfl) (by kernel_rfl) ?hQ8 (Or.inl ⟨?hw8, ?hy8⟩) (by assumption) ?_
            case hi8 => (simp only [List.getElem?_toArray, List.getElem?_cons_succ, List.getElem?_cons_zero]; rfl)
            case hQ8 => exact fun _ _ _ h => h
            case hw8 => rfl
            case hy8 => (intro w' hSw; (try dsimp only at hSw); go_simp; all_goals with_reducible rfl)
            try simp only [Act.put, List.setIfInBounds_toArray, List.set_cons_zero, List.set_cons_succ]
            refine' wpAnyH_take (i := 9) ?hi9 (by kernel_rfl) (by kernel_rfl) (by kernel_rfl) ?hQ9 (Or.inl ⟨?hw9, ?hy9⟩) (by assumption) ?_
            case hi9 => (simp only [List.getElem?_toArray, List.getElem?_cons_succ, List.getElem?_cons_zero]; rfl)
            case hQ9 => exact fun _ _ _ h => h
            case hw9 => rfl
            case hy9 => (intro w' hSw; (try dsimp only at hSw); go_simp; all_goals with_reducible rfl)
            try simp only [Act.put, List.setIfInBounds_toArray, List.set_cons_zero, List.set_cons_succ]
            refine wpAnyH_ready (rs := [10]) (by kernel_rfl) (by simp) ?_
            refine AllReadyH.cons rfl (fun K hK => ?_) AllReadyH.nil
            go_simp
            refine hK.out _ _ ?_ (fun hH => ?_)
            · exact ckeep (by assumption) ((Chg.refl Never _).alloc _)
            clear hK K
            try simp only [Act.put, List.setIfInBounds_toArray, List.set_cons_zero, List.set_cons_succ]
            refine wpAnyH_ready (rs := [11]) (by kernel_rfl) (by simp) ?_
            refine AllReadyH.cons rfl (fun K hK => ?_) AllReadyH.nil
            go_simp
            have hBk := Blk3.new wq 79 (.int .i64 K1) (.string P) (.slice none 0 0)
            have hcA := ((And.left (by assumption) : Chg Never wr wq)).alloc (.cells #[.int .i64 K1, .string P, .slice none 0 0] 79)
            have hle : wr.heap.size ≤ wq.heap.size := (And.left (by assumption) : Chg Never wr wq).size
            refine hK.out _ _ (ckeep (by assumption) ((Chg.refl Never _).alloc _)) (fun hH => ?_)
            clear hK K
            try simp only [Act.put, List.setIfInBounds_toArray, List.set_cons_zero, List.set_cons_succ]
            refine' wpAnyH_take (i := 12) ?hi12 (by kernel_rfl) (by kernel_rfl) (by kernel_rfl) ?hQ12 (Or.inl ⟨?hw12, ?hy12⟩) (by assumption) ?_
            case hi12 => (simp only [List.getElem?_toArray, List.getElem?_cons_succ, List.getElem?_cons_zero]; rfl)
            case hQ12 => exact fun _ _ _ h => h
            case hw12 => rfl
            case hy12 => (intro w' hSw; (try dsimp only at hSw); go_simp; all_goals with_reducible rfl)
            try simp only [Act.put, List.setIfInBounds_toArray, List.set_cons_zero, List.set_cons_succ]
            refine wpAnyH_done (by kernel_rfl) ?_ _
            go_wp2_with fail
            go_meet
            exact ⟨_, K1, P, B, rfl, rfl, hle, hcA, hHq, hBk⟩
          · go_simp
            refine hK.out _ _ ?_ (fun hH => ?_)
            · exact ckeep (by assumption) ((Chg.refl Never _).alloc _)
            clear hK K
            try simp only [Act.put, List.setIfInBounds_toArray, List.set_cons_zero, List.set_cons_succ]
            refine wpAnyH_ready (rs := [6]) (by kernel_rfl) (by simp) ?_
            refine AllReadyH.cons rfl (fun K hK => ?_) AllReadyH.nil
            go_simp
            go_at_call 57
            refine (headed_is x y _ zx zy).mono ?_
            rintro e wq ⟨K1, P, B, rfl, hcq, hHq⟩
            try go_wp2_with fail
            refine hK.out _ _ ?_ (fun hH => ?_)
            · exact ckeep (by assumption) hcq
            clear hK K
            try simp only [Act.put, List.setIfInBounds_toArray, List.set_cons_zero, List.set_cons_succ]
            refine' wpAnyH_take (i := 7) ?hi7 (by kernel_rfl) (by kernel_rfl) (by kernel_rfl) ?hQ7 (Or.inl ⟨?hw7, ?hy7⟩) (by assumption) ?_
            case hi7 => (simp only [List.getElem?_toArray, List.getElem?_cons_succ, List.getElem?_cons_zero]; rfl)
            case hQ7 => exact fun _ _ _ h => h
            case hw7 => rfl
            case hy7 => (intro w' hSw; (try dsimp only at hSw); go_simp; all_goals with_reducible rfl)
            try simp only [Act.put, List.setIfInBounds_toArray, List.set_cons_zero, List.set_cons_succ]
            refine' wpAnyH_take (i := 8) ?hi8 (by kernel_rfl) (by kernel_rfl) (by kernel_rfl) ?hQ8 (Or.inl ⟨?hw8, ?hy8⟩) (by assumption) ?_
            case hi8 => (simp only [List.getElem?_toArray, List.getElem?_cons_succ, List.getElem?_cons_zero]; rfl)
            case hQ8 => exact fun _ _ _ h => h
            case hw8 => rfl
            case hy8 => (intro w' hSw; (try dsimp only at hSw); go_simp; all_goals with_reducible rfl)
            try simp only [Act.put, List.setIfInBounds_toArray, List.set_cons_zero, List.set_cons_succ]
            refine' wpAnyH_take (i := 9) ?hi9 (by kernel_rfl) (by kernel_rfl) (by kernel_rfl) ?hQ9 (Or.inl ⟨?hw9, ?hy9⟩) (by assumption) ?_
            case hi9 => (simp only [List.getElem?_toArray, List.getElem?_cons_succ, List.getElem?_cons_zero]; rfl)
            case hQ9 => exact fun _ _ _ h => h
            case hw9 => rfl
            case hy9 => (intro w' hSw; (try dsimp only at hSw); go_simp; all_goals with_reducible rfl)
            try simp only [Act.put, List.setIfInBounds_toArray, List.set_cons_zero, List.set_cons_succ]
            refine wpAnyH_ready (rs := [11]) (by kernel_rfl) (by simp) ?_
            refine AllReadyH.cons rfl (fun K hK => ?_) AllReadyH.nil
            have hBk : Blk3 wq wr.heap.size 79 (.int .i64 0) (.string ⟨#[]⟩) (.slice none 0 0) := (Blk3.new wr.drew 79 (.int .i64 0) (.string ⟨#[]⟩) (.slice none 0 0)).keep hcq (fun h => h)
            obtain ⟨b0, b1, b2⟩ := hBk.cell
            have f0 := hBk.free 0
            have f1 := hBk.free 1
            have f2 := hBk.free 2
            have hBk := ((hBk.set0 (.int .i64 K1)).set1 (.string P)).set2 (.slice none 0 0)
            have hcq0 : Chg Never wr wq := And.left (by assumption)
            have hcA := ((hcq0.setCell (p := ⟨wr.heap.size, 0, none⟩) (.inl (Nat.le_refl _)) (.int .i64 K1)).setCell (p := ⟨wr.heap.size, 1, none⟩) (.inl (Nat.le_refl _)) (.string P)).setCell (p := ⟨wr.heap.size, 2, none⟩) (.inl (Nat.le_refl _)) (.slice none 0 0)
            go_simp
            refine hK.out _ _ ⟨hcA, hcA.cellNever c0, hcA.cellNever c1⟩ (fun hH => ?_)
            clear hK K
            try simp only [Act.put, List.setIfInBounds_toArray, List.set_cons_zero, List.set_cons_succ]
            refine' wpAnyH_take (i := 12) ?hi12 (by kernel_rfl) (by kernel_rfl) (by kernel_rfl) ?hQ12 (Or.inl ⟨?hw12, ?hy12⟩) (by assumption) ?_
            case hi12 => (simp only [List.getElem?_toArray, List.getElem?_cons_succ, List.getElem?_cons_zero]; rfl)
            case hQ12 => exact fun _ _ _ h => h
            case hw12 => rfl
            case hy12 => (intro w' hSw; (try dsimp only at hSw); go_simp; all_goals with_reducible rfl)
            try simp only [Act.put, List.setIfInBounds_toArray, List.set_cons_zero, List.set_cons_succ]
            refine wpAnyH_done (by kernel_rfl) ?_ _
            go_wp2_with fail
            go_meet
            exact ⟨_, K1, P, B, rfl, rfl, Nat.le_refl _, hcA, hHq, hBk⟩
        case rest =>
          obtain ⟨k, K, P, B, rfl, rfl, hk, hc, hH, hB3⟩ := hcut
          have hcc := hc.out
          rcases hH.out with ⟨rfl, hh⟩ | ⟨rfl, p, hh, hP⟩
          · clear hH hc hB3 hsub hrun c0 c1
            have hr : Hid (chgsL l = none) := cinv_head hI.out HD2.out hh
            go_wp2_with fail
            go_ret2
            exact ⟨_, by rw [hr.out]; rfl, hn.chg.trans hcc, by rw [hr.out]; exact rdv_nil _ _⟩
          · have HH := Lib.hid hh
            have hPz : P.size ≤ maxLen := by
              have := headed_len hh
              rw [hP, toB_size', ]
              rw [← Lib.size_eq, ← Lib.size_eq] at this
              unfold maxLen; omega
            have HP := Lib.hid hP
            have hkl := hB3.lt
            have hgc : Globs wc m := hg.never (hn.chg.trans hcc)
            have hrun : ∀ wx : World, (Instr.slice 56 (.slice (some ⟨g, off, none⟩) n capb) (some (.int .i64 2)) none none).run Tryz.prog wx = .ok (.slice sb (n - 2) (capb - 2)) wx := hrun
            clear hh hP hH hc c0 c1 zx zy
            go_wp2_with fail
            clear hrun
            go_loopw [0] (fun bv wx => ∃ (q : Nat) (vr : Value) (hs : List Hunk) (o d : Nat), i + 2 + q ≤ l.length ∧ Rdv w Never bv (l.drop (i + 2 + q)) ∧ RdrAt wx wc.heap.size wc.heap.size vr hs o d ∧ Chg Never wc wx ∧ Hid (RdB hs o d q) ∧ Hid (TakeInv (bytesL R2) (bytesL (l.drop (i + 2 + q))) hs o d)) (fun bv _ => sliceLenOf bv)
            case atStart => exact ⟨0, _, [], 0, 0, hil, hsub, RdrAt.new wc, (Chg.refl Never wc).alloc _, rdB_start, by rw [Nat.add_zero, HR2.out]; exact tinv_start _⟩
            case round =>
              clear hsub
              obtain ⟨q, vr, hs, o, d, hq, hb, hR, hcw, hB, hT⟩ := hrel
              rename World => wx
              obtain ⟨rb, rc, rfl, r1, r2, r3⟩ := rdv_slice hb
              unfold maxLen at r2
              have hdl : (l.drop (i + 2 + q)).length = l.length - (i + 2 + q) := List.length_drop
              have hbox := hR.box
              obtain ⟨va, vn, vc, rfl⟩ := own_isSlice hR.own
              obtain ⟨N, hN⟩ : ∃ N, (l.drop (i + 2 + q)).length = N := ⟨_, rfl⟩
              rw [hN] at hb r1 hdl ⊢
              have hNn : N < n := by have := HN.out; omega
              have HDQ : Hid ((bytesL l).drop (i + 2 + q) = bytesL (l.drop (i + 2 + q))) := bytesL_drop _ _
              have hcx : Chg Never wr wx := hcc.trans hcw
              cases hRR : l.drop (i + 2 + q) with
              | nil =>
                rw [hRR] at hN hT
                obtain rfl : N = 0 := by rw [← hN]; rfl
                clear hN r3 hdl
                by_cases hop : 0 < o ∨ 0 < d
                · have HO := Lib.hid (opn_true hop)
                  have hTk := Lib.hid (tinv_open hT.out hop)
                  clear hop hRR
                  go_wp2_with fail
                  refine (rd_open wc.heap.size (.slice va vn vc) o d _ hbox).mono ?_
                  rintro e w1 ⟨rfl, rfl⟩
                  rename World => wx
                  rw [HO.out]
                  have hr : Hid (chgsL l = none) := cinv_take hI.out HD2.out HH.out hTk.out
                  go_wp2_with fail
                  go_ret2
                  exact ⟨_, by rw [hr.out]; rfl, hn.chg.trans hcx, by rw [hr.out]; exact rdv_nil _ _⟩
                · have HO := Lib.hid (opn_false hop)
                  have hTk : Hid (takeU (bytesL R2) [] 0 0 = some (hs, (bytesL l).drop (i + 2 + q))) := by
                    rw [Hid, HDQ.out, hRR]
                    exact tinv_end hT.out hop (fun s r e => by cases e)
                  clear hop hRR
                  go_wp2_with fail
                  refine (rd_open wc.heap.size (.slice va vn vc) o d _ hbox).mono ?_
                  rintro e w1 ⟨rfl, rfl⟩
                  rename World => wx
                  rw [HO.out]
                  obtain ⟨x0, -, -⟩ := hbox.cell
                  have hBk : Blk3 wx k 79 (.int .i64 K) (.string P) (.slice none 0 0) := hB3.keep hcw (fun h => h)
                  obtain ⟨k0, k1, k2⟩ := hBk.cell
                  have kf := hBk.free 2
                  have hcS : Chg (fun b => b = k) wx (wx.setCell ⟨k, 2, none⟩ (.slice va vn vc)) := (Chg.refl (fun b => b = k) wx).setCell (p := ⟨k, 2, none⟩) (.inr rfl) _
                  have hcR : Chg Never wr (wx.setCell ⟨k, 2, none⟩ (.slice va vn vc)) := hcx.setCell (p := ⟨k, 2, none⟩) (.inl hk) _
                  obtain ⟨j0, j1, j2⟩ := (hBk.set2 (.slice va vn vc)).cell
                  have hnx := hn.never hcR
                  have hv : Rdv (wx.setCell ⟨k, 2, none⟩ (.slice va vn vc)) (Old wr.heap.size) (.slice va vn vc) hs := hR.rdv.keep hcS (fun b _ e => .inl (by rw [e]; exact hkl)) (fun b _ hb => .inl (Nat.lt_of_lt_of_le hb hcc.size))
                  have hy : Dat.rd (wx.setCell ⟨k, 2, none⟩ (.slice va vn vc)) (fun k => Never k ∨ (Value.slice oa on oc).ownBlock = some k) [.int .i64 K, .string P, .slice va vn vc] (⟨K, P, hs⟩ : Change) := ⟨_, rfl, hPz, hn.fresh hv⟩
                  have hLx : L.length ≤ 1000000000 := by omega
                  clear hBk hcS hcR hv
                  go_wp2_with (at_builtin; refine wpList_push (by rfl) _ _ 45 (by rfl) elemOk_change (O := Never) (l := L) (y := ⟨K, P, hs⟩) (by rfl) (by rfl) (by simp) hnx.own hy (fun _ h => h.elim) hLx ?_; intro v' w9 hown2 hc2 hk2; have hn2 := hnx.step1 hown2 hc2 hk2; clear hown2 hc2 hk2 hnx hy; obtain ⟨oa2, on2, oc2, rfl⟩ := own_isSlice hn2.own)
                  go_roundw
                  case rel => exact ⟨i + 2 + q, L ++ [⟨K, P, hs⟩], hq, hb, hn2, by rw [List.length_append]; simp only [List.length_cons, List.length_nil]; omega, by rw [HP.out]; exact cinv_step hI.out HD2.out HH.out hTk.out (by omega)⟩
                  case measure => exact hNn
              | cons s R3 =>
                have hcnd : Hid (TakeInv (bytesL R2) (s.data.toList :: bytesL R3) hs o d) := by have := hT; rw [hRR] at this; exact this
                have zs := HS.out s (List.mem_of_mem_drop (i := i + 2 + q) (by rw [hRR]; simp))
                have HD3 : Hid (l.drop (i + 2 + (q + 1)) = R3) := by
                  rw [Hid, show i + 2 + (q + 1) = i + 2 + q + 1 from rfl, ← List.drop_drop, hRR]; rfl
                obtain ⟨g2, off2, rfl, -, -, c0, -⟩ := elems_str r3 (i := 0) (x := s) (by rw [hRR]; rfl)
                simp only [Nat.add_zero] at c0
                have c0 := (hn.chg.trans hcx).cellNever c0
                obtain ⟨sb2, hrun, hsub⟩ := rdv_tail hb hN.symm (k := 1) (by rw [hRR]; simp)
                have hrun : ∀ wx : World, (Instr.slice 56 (.slice (some ⟨g2, off2, none⟩) N rc) (some (.int .i64 1)) none none).run Tryz.prog wx = .ok (.slice sb2 (N - 1) (rc - 1)) wx := hrun
                rw [List.drop_drop] at hsub
                have hN0 : 1 ≤ N := by rw [← hN, hRR]; simp
                have hNi : (0 : Int) < (N : Int) := by omega
                have hN6 : N ≤ 1000000 := by omega
                have hgx : Globs wx m := hgc.never hcw
                have hq2 : i + 2 + (q + 1) ≤ l.length := by omega
                clear r3
                by_cases hop : 0 < o ∨ 0 < d
                · have HO := Lib.hid (opn_true hop)
                  have hcd : Hid ((0 < o ∨ 0 < d) ∨ hunkHead s.data.toList = true) := .inl hop
                  clear hop hRR hN hdl
                  go_wp2_with fail
                  refine (rd_open wc.heap.size (.slice va vn vc) o d _ hbox).mono ?_
                  rintro e w1 ⟨rfl, rfl⟩
                  rename World => wx
                  rw [HO.out]
                  go_wp2_with fail
                  refine (reader_line wc.heap.size wc.heap.size (.slice va vn vc) hs o d s _ hR hB.out.ok zs ⟨by have := hB.out.on; omega, by have := hB.out.on; omega⟩ (by have := hB.out.len; omega) (fun h hh => by have := hB.out.marks h hh; omega) m hgx).mono ?_
                  rintro e wy ⟨hcy, hp⟩
                  have hcz : Chg Never wc wy := ((hcw.mono (O' := RdC wc.heap.size wc.heap.size) (fun _ _ h => h.elim)).trans hcy).mono (O' := Never) (fun k hk h => h.elim (fun e => Nat.lt_irrefl _ (e ▸ hk)) (fun e => Nat.not_lt_of_le e hk))
                  cases hrl : readLine hs o d s.data.toList with
                  | none =>
                    rw [hrl] at hp
                    subst hp
                    have hTk := Lib.hid (tinv_bad hcnd.out hcd.out hrl)
                    clear hrl hrun c0
                    have hr : Hid (chgsL l = none) := cinv_take hI.out HD2.out HH.out hTk.out
                    go_wp2_with fail
                    go_ret2
                    exact ⟨_, by rw [hr.out]; rfl, hn.chg.trans (hcc.trans hcz), by rw [hr.out]; exact rdv_nil _ _⟩
                  | some t =>
                    obtain ⟨hs', o', d'⟩ := t
                    rw [hrl] at hp
                    obtain ⟨rfl, vr', hR'⟩ := hp
                    have hT2 := Lib.hid (tinv_step hcnd.out hcd.out hrl)
                    have hB2 := Lib.hid (rdB_step hB.out hrl)
                    clear hrl c0
                    go_wp2_with fail
                    go_roundw
                    case rel => exact ⟨q + 1, vr', hs', o', d', hq2, hsub, hR', hcz, hB2, by rw [HD3.out]; exact hT2⟩
                    case measure => show N - 1 < N; omega
                · have HO := Lib.hid (opn_false hop)
                  have hpx : Lib.hasPrefix s.data.toList [64, 64] = hunkHead s.data.toList := rfl
                  cases hh : hunkHead s.data.toList with
                  | true =>
                    have HX := Lib.hid (hpx.trans hh)
                    have hcd : Hid ((0 < o ∨ 0 < d) ∨ hunkHead s.data.toList = true) := .inr hh
                    clear hop hRR hpx hh hN hdl
                    go_wp2_with fail
                    refine (rd_open wc.heap.size (.slice va vn vc) o d _ hbox).mono ?_
                    rintro e w1 ⟨rfl, rfl⟩
                    rename World => wx
                    rw [HO.out]
                    go_wp2_with fail
                    refine (Tryz.strings_HasPrefix s (toB [64, 64]) _).mono ?_
                    rintro e w1 ⟨rfl, rfl⟩
                    rename World => wx
                    rw [toB_data, HX.out]
                    go_wp2_with fail
                    refine (reader_line wc.heap.size wc.heap.size (.slice va vn vc) hs o d s _ hR hB.out.ok zs ⟨by have := hB.out.on; omega, by have := hB.out.on; omega⟩ (by have := hB.out.len; omega) (fun h hh => by have := hB.out.marks h hh; omega) m hgx).mono ?_
                    rintro e wy ⟨hcy, hp⟩
                    have hcz : Chg Never wc wy := ((hcw.mono (O' := RdC wc.heap.size wc.heap.size) (fun _ _ h => h.elim)).trans hcy).mono (O' := Never) (fun k hk h => h.elim (fun e => Nat.lt_irrefl _ (e ▸ hk)) (fun e => Nat.not_lt_of_le e hk))
                    cases hrl : readLine hs o d s.data.toList with
                    | none =>
                      rw [hrl] at hp
                      subst hp
                      have hTk := Lib.hid (tinv_bad hcnd.out hcd.out hrl)
                      clear hrl hrun c0
                      have hr : Hid (chgsL l = none) := cinv_take hI.out HD2.out HH.out hTk.out
                      go_wp2_with fail
                      go_ret2
                      exact ⟨_, by rw [hr.out]; rfl, hn.chg.trans (hcc.trans hcz), by rw [hr.out]; exact rdv_nil _ _⟩
                    | some t =>
                      obtain ⟨hs', o', d'⟩ := t
                      rw [hrl] at hp
                      obtain ⟨rfl, vr', hR'⟩ := hp
                      have hT2 := Lib.hid (tinv_step hcnd.out hcd.out hrl)
                      have hB2 := Lib.hid (rdB_step hB.out hrl)
                      clear hrl c0
                      go_wp2_with fail
                      go_roundw
                      case rel => exact ⟨q + 1, vr', hs', o', d', hq2, hsub, hR', hcz, hB2, by rw [HD3.out]; exact hT2⟩
                      case measure => show N - 1 < N; omega
                  | false =>
                    have HX := Lib.hid (hpx.trans hh)
                    have hTk : Hid (takeU (bytesL R2) [] 0 0 = some (hs, (bytesL l).drop (i + 2 + q))) := by
                      rw [Hid, HDQ.out, hRR]
                      exact tinv_end hcnd.out hop (fun s' r e => by injection e with e1 _; rw [← e1]; exact hh)
                    clear hop hRR hpx hh hN hdl
                    go_wp2_with fail
                    refine (rd_open wc.heap.size (.slice va vn vc) o d _ hbox).mono ?_
                    rintro e w1 ⟨rfl, rfl⟩
                    rename World => wx
                    rw [HO.out]
                    go_wp2_with fail
                    refine (Tryz.strings_HasPrefix s (toB [64, 64]) _).mono ?_
                    rintro e w1 ⟨rfl, rfl⟩
                    rename World => wx
                    rw [toB_data, HX.out]
                    go_wp2_with fail
                    refine (rd_open wc.heap.size (.slice va vn vc) o d _ hbox).mono ?_
                    rintro e w1 ⟨rfl, rfl⟩
                    rename World => wx
                    rw [HO.out]
                    obtain ⟨x0, -, -⟩ := hbox.cell
                    have hBk : Blk3 wx k 79 (.int .i64 K) (.string P) (.slice none 0 0) := hB3.keep hcw (fun h => h)
                    obtain ⟨k0, k1, k2⟩ := hBk.cell
                    have kf := hBk.free 2
                    have hcS : Chg (fun b => b = k) wx (wx.setCell ⟨k, 2, none⟩ (.slice va vn vc)) := (Chg.refl (fun b => b = k) wx).setCell (p := ⟨k, 2, none⟩) (.inr rfl) _
                    have hcR : Chg Never wr (wx.setCell ⟨k, 2, none⟩ (.slice va vn vc)) := hcx.setCell (p := ⟨k, 2, none⟩) (.inl hk) _
                    obtain ⟨j0, j1, j2⟩ := (hBk.set2 (.slice va vn vc)).cell
                    have hnx := hn.never hcR
                    have hv : Rdv (wx.setCell ⟨k, 2, none⟩ (.slice va vn vc)) (Old wr.heap.size) (.slice va vn vc) hs := hR.rdv.keep hcS (fun b _ e => .inl (by rw [e]; exact hkl)) (fun b _ hb => .inl (Nat.lt_of_lt_of_le hb hcc.size))
                    have hy : Dat.rd (wx.setCell ⟨k, 2, none⟩ (.slice va vn vc)) (fun k => Never k ∨ (Value.slice oa on oc).ownBlock = some k) [.int .i64 K, .string P, .slice va vn vc] (⟨K, P, hs⟩ : Change) := ⟨_, rfl, hPz, hn.fresh hv⟩
                    have hLx : L.length ≤ 1000000000 := by omega
                    clear hBk hcS hcR hv
                    go_wp2_with (at_builtin; refine wpList_push (by rfl) _ _ 45 (by rfl) elemOk_change (O := Never) (l := L) (y := ⟨K, P, hs⟩) (by rfl) (by rfl) (by simp) hnx.own hy (fun _ h => h.elim) hLx ?_; intro v' w9 hown2 hc2 hk2; have hn2 := hnx.step1 hown2 hc2 hk2; clear hown2 hc2 hk2 hnx hy; obtain ⟨oa2, on2, oc2, rfl⟩ := own_isSlice hn2.own)
                    go_roundw
                    case rel => exact ⟨i + 2 + q, L ++ [⟨K, P, hs⟩], hq, hb, hn2, by rw [List.length_append]; simp only [List.length_cons, List.length_nil]; omega, by rw [HP.out]; exact cinv_step hI.out HD2.out HH.out hTk.out (by omega)⟩
                    case measure => exact hNn
end Go.Proofs.YtmojaahkcpgfkaaGreatDoor
