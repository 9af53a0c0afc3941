/-
  PARTS: THE WALK of the document's PatchFault.; THE WALK of the laws' has.; TWO PAIRS OF NUMBERS ([2]int), compared.; THE LAW RangeSelf, walked.
-/
import Derived.Test.YtgabchhplmncnaaDoorPackRs8
import Derived.Test.YtgabchhplmncnaaDoorPackRs9
import Derived.Test.YtgabchhplmncnaaDoorPackRs6
import Derived.BigQuiet
import Derived.Deep.Cut
import Derived.Test.YtgabchhplmncnaaDoorPackRs7
import Derived.Test.YtgabchhplmncnaaDoorPackRs1
namespace Go.Proofs.YtgabchhplmncnaaDoor
open Go.RowKit

set_option maxHeartbeats 8000000 in
set_option maxRecDepth 100000 in
theorem refPatch_any (t : List Change) (v : Value) (w : World) (h : Rdv w Never v t) :
    Calls Tryd.prog 5 #[v] w fun e w' => e = .returned (.tuple #[.int .i64 (patchFault t).1, .int .i64 (patchFault t).2]) ∧ Chg Never w w' := by
  obtain ⟨a, cap, rfl, h1, h2, h3⟩ := rdv_slice h
  unfold maxLen at h2
  by_cases h8 : 16 < t.length
  · have HF : Hid (patchFault t = (0, 3)) := if_pos h8
    go_enter Tryd.func5, Tryd.ntmps5
    go_wp2_with fail
    go_ret2
    exact ⟨by rw [HF.out]; rfl, Chg.refl _ _⟩
  · have HF : Hid (patchFault t = patchGo 0 (prevC t 0) (t.drop 0)) := if_neg h8
    go_enter Tryd.func5, Tryd.ntmps5
    go_wp2_with fail
    go_loopw [4] (fun i wr => ∃ k : Nat, k ≤ t.length ∧ i = .int .i64 k ∧ Chg Never w wr ∧ Hid (patchFault t = patchGo k (prevC t k) (t.drop k))) (fun i _ => t.length - (intOf i).toNat)
    case atStart => exact ⟨0, Nat.zero_le _, rfl, Chg.refl _ _, HF.out⟩
    case round =>
      clear HF
      rename World => wr
      obtain ⟨k, hk, rfl, hc, hG⟩ := hrel
      by_cases hlt : k < t.length
      · obtain ⟨x, hx⟩ : ∃ x, t[k]? = some x := ⟨t[k], by simp [hlt]⟩
        obtain ⟨wh, pt, hs⟩ := x
        obtain ⟨b, off, lv, hbo, _, _, c0, c1, c2, hps, hlv⟩ := elems_change h3 hx
        subst hbo
        simp only at c0 c1 c2 hps hlv
        obtain ⟨la, lcap, rfl, _, _, hlh⟩ := rdv_slice hlv
        have c0 := hc.cellNever c0
        have c1 := hc.cellNever c1
        have c2 := hc.cellNever c2
        have HD := Lib.hid (drop_eq hx)
        have HPV := Lib.hid (prevC_succ hx)
        simp only at HPV
        obtain ⟨hA, d0, d1, d2⟩ := box1_change wr 25 wh pt (.slice la hs.length lcap) _ rfl
        clear hx
        by_cases r : wh < 1 ∨ 3 < wh
        · have HE : Hid (patchFault t = (k, 1)) := by rw [Hid, hG.out, patchGo_bad HD.out (by rw [cf_rng (c := ⟨wh, pt, hs⟩) r]; decide), cf_rng (c := ⟨wh, pt, hs⟩) r]
          clear hG
          rcases r with r | r
          · go_wp2_with fail
            go_ret2
            exact ⟨by rw [HE.out]; rfl, hc.trans hA⟩
          · have r0 : ¬ wh < 1 := by omega
            go_wp2_with fail
            go_ret2
            exact ⟨by rw [HE.out]; rfl, hc.trans hA⟩
        · have r0 : ¬ wh < 1 := by omega
          have r1 : ¬ 3 < wh := by omega
          by_cases z : pathFault pt = 0
          · have P0 := Lib.hid z
            by_cases y : (hunksFault hs).2 = 0
            · have H0 := Lib.hid y
              have HCF : Hid ((shapeB ⟨wh, pt, hs⟩ = true → changeFault ⟨wh, pt, hs⟩ = 0) ∧ (shapeB ⟨wh, pt, hs⟩ = false → changeFault ⟨wh, pt, hs⟩ = 2)) := ⟨fun s => cf_ok r z y s, fun s => cf_shape r z y s⟩
              clear r z y
              go_wp2_with fail
              generalize wr.alloc (.cells #[.int .i64 wh, .string pt, .slice la hs.length lcap] 25) = w3 at hA d0 d1 d2 ⊢
              have hc3 := hc.trans hA
              clear hA c0 c1 c2
              refine (refPath_any pt _).mono ?_
              rintro e w4 ⟨rfl, hc4⟩
              have d0 := hc4.cellNever d0
              have d1 := hc4.cellNever d1
              have d2 := hc4.cellNever d2
              have hcD := hc3.trans hc4
              clear hc3 hc4
              rw [P0.out]
              go_wp2_with fail
              refine (refHunks_any hs _ _ (hlv.never hcD)).mono ?_
              rintro e w5 ⟨rfl, hc5⟩
              have d0 := hc5.cellNever d0
              have d1 := hc5.cellNever d1
              have d2 := hc5.cellNever d2
              have hcD := hcD.trans hc5
              clear hc5
              rw [H0.out]
              rcases Nat.eq_zero_or_pos k with h0 | h0
              · subst h0
                have HO : Hid ((prevC t 0).any (fun p => leqB pt p) = false) := rfl
                by_cases k1 : wh = 1
                · subst k1
                  by_cases hs0 : hs = []
                  · subst hs0
                    have hsh : shapeB ⟨1, pt, []⟩ = false := shape_edit0 rfl rfl
                    have HE : Hid (patchFault t = (0, 2)) := by rw [Hid, hG.out]; exact pg_bad HD.out (.inr (HCF.out.2 hsh)) (.inl hsh) HCF.out.2
                    clear hG hsh
                    go_wp2_with fail
                    go_quiet (fail)
                    go_wp2_with fail
                    go_ret2
                    exact ⟨by rw [HE.out]; rfl, hcD.drewN _⟩
                  · have t0 : ((hs.length : Int) == 0) = false := beq_eq_false_iff_ne.2 (by have := List.length_pos_iff.2 hs0; omega)
                    have hsh : shapeB ⟨1, pt, hs⟩ = true := shape_edit rfl hs0
                    have HNX : Hid (patchFault t = patchGo (0 + 1) (prevC t (0 + 1)) (t.drop (0 + 1))) := by rw [Hid, HPV.out, hG.out]; exact patchGo_next HD.out (HCF.out.1 hsh) HO.out
                    clear hs0 hG hsh
                    go_wp2_with fail
                    go_quiet (fail)
                    generalize hqq : World.drewN w5 _ = w6
                    have hq : Chg Never w5 w6 := hqq ▸ (Chg.refl Never w5).drewN _
                    clear hqq
                    have hcE := hcD.trans hq
                    have d0 := hq.cellNever d0
                    have d1 := hq.cellNever d1
                    have d2 := hq.cellNever d2
                    clear hq hcD
                    go_wp2_with fail
                    go_roundw
                    case rel => exact ⟨0 + 1, by omega, by go_num, hcE, HNX.out⟩
                    case measure => simp [intOf] <;> omega
                · have t1 : (wh == 1) = false := by simp [k1]
                  have t1' : (wh != 1) = true := by simp [k1]
                  have k23 : wh = 2 ∨ wh = 3 := by omega
                  by_cases gm : (1 : Int) < hs.length
                  · have gm' := decide_eq_true gm
                    have hsh : shapeB ⟨wh, pt, hs⟩ = false := shape_many k23 (by show 2 ≤ hs.length; omega)
                    have HE : Hid (patchFault t = (0, 2)) := by rw [Hid, hG.out]; exact pg_bad HD.out (.inr (HCF.out.2 hsh)) (.inl hsh) HCF.out.2
                    clear hG hsh k1 k23
                    go_wp2_with fail
                    go_quiet (fail)
                    go_wp2_with fail
                    go_ret2
                    exact ⟨by rw [HE.out]; rfl, hcD.drewN _⟩
                  · have gm' := decide_eq_false gm
                    by_cases hs0 : hs = []
                    · subst hs0
                      have hsh : shapeB ⟨wh, pt, []⟩ = true := shape_none k23 rfl
                      have HNX : Hid (patchFault t = patchGo (0 + 1) (prevC t (0 + 1)) (t.drop (0 + 1))) := by rw [Hid, HPV.out, hG.out]; exact patchGo_next HD.out (HCF.out.1 hsh) HO.out
                      clear hG hsh k1 k23 gm gm'
                      go_wp2_with fail
                      go_quiet (fail)
                      generalize hqq : World.drewN w5 _ = w6
                      have hq : Chg Never w5 w6 := hqq ▸ (Chg.refl Never w5).drewN _
                      clear hqq
                      have hcE := hcD.trans hq
                      have d0 := hq.cellNever d0
                      have d1 := hq.cellNever d1
                      have d2 := hq.cellNever d2
                      clear hq hcD
                      go_wp2_with fail
                      go_roundw
                      case rel => exact ⟨0 + 1, by omega, by go_num, hcE, HNX.out⟩
                      case measure => simp [intOf] <;> omega
                    · obtain ⟨x, rfl⟩ : ∃ x, hs = [x] := by
                        match hs, hs0, gm with
                        | [x], _, _ => exact ⟨x, rfl⟩
                        | a :: b :: r, _, gm => exact absurd (by simp; omega) gm
                      clear gm gm' hs0
                      obtain ⟨ov, nv, mk⟩ := x
                      have HMK : Hid (scriptFault mk = 0) := hOk_mem _ _ _ (hunksFault_zero H0.out).2 ⟨ov, nv, mk⟩ (List.mem_singleton.2 rfl)
                      go_wp2_with fail
                      go_quiet (fail)
                      generalize hqq : World.drewN w5 _ = w6
                      have hq : Chg Never w5 w6 := hqq ▸ (Chg.refl Never w5).drewN _
                      clear hqq
                      have hcE := hcD.trans hq
                      have d0 := hq.cellNever d0
                      have d1 := hq.cellNever d1
                      have d2 := hq.cellNever d2
                      clear hq hcD
                      obtain ⟨xb, xo, xv, hxa, _, _, x0, x1, x2, hmv⟩ := elems_hunk hlh (i := 0) rfl
                      subst hxa
                      simp only [Nat.zero_mul, Nat.add_zero] at x0 x1 x2 hmv
                      have x0 := hcE.cellNever x0
                      have x1 := hcE.cellNever x1
                      have x2 := hcE.cellNever x2
                      obtain ⟨xa, xc, rfl, _, _, _⟩ := rdv_slice hmv
                      by_cases o : ov = 0
                      · subst o
                        have hBx := Blk3.new w6 50 (.int .i64 0) (.int .i64 nv) (.slice xa mk.length xc)
                        have hAx : Chg Never w6 (w6.alloc (.cells #[.int .i64 0, .int .i64 nv, .slice xa mk.length xc] 50)) := (Chg.refl Never w6).alloc _
                        rcases k23 with k2 | k3
                        · subst k2
                          clear t1 t1' k1
                          go_upto_region 18 with fail
                          generalize w6.alloc (.cells #[.int .i64 0, .int .i64 nv, .slice xa mk.length xc] 50) = w7 at hBx hAx ⊢
                          clear x0 x1 x2
                          obtain ⟨x0, _, x2⟩ := hBx.cell
                          have d0 := hAx.cellNever d0
                          go_wp2_with fail
                          refine (refOld_any mk _ _ (hmv.never (hcE.trans hAx)) HMK.out).mono ?_
                          rintro e w8 ⟨r8, rfl, hc8, hr8⟩
                          obtain ⟨ra, rc, rfl, _, _, _⟩ := rdv_slice hr8
                          have hcE := (hcE.trans hAx).trans hc8
                          have d0 := hc8.cellNever d0
                          have x0 := hc8.cellNever x0
                          have x2 := hc8.cellNever x2
                          clear hr8 hc8 hAx d1 d2
                          by_cases n0 : (those mk 43).length = 0
                          · have hsh : shapeB ⟨2, pt, [⟨0, nv, mk⟩]⟩ = true := by
                              rw [shape_one (c := ⟨2, pt, [⟨0, nv, mk⟩]⟩) (.inl rfl) rfl H0.out, decide_eq_true (show (⟨0, nv, mk⟩ : Hunk).old = 0 from rfl)]
                              exact decide_eq_true n0
                            have HNX : Hid (patchFault t = patchGo (0 + 1) (prevC t (0 + 1)) (t.drop (0 + 1))) := by rw [Hid, HPV.out, hG.out]; exact patchGo_next HD.out (HCF.out.1 hsh) HO.out
                            have n0' : ¬ (0 : Int) < (those mk 43).length := by omega
                            have n0'' := decide_eq_false n0'
                            have n0n : ¬ 0 < (those mk 43).length := by omega
                            clear hG hsh n0
                            go_wp2_with fail
                            go_roundw
                            case rel => exact ⟨0 + 1, by omega, by go_num, hcE, HNX.out⟩
                            case measure => simp [intOf] <;> omega
                          · have hsh : shapeB ⟨2, pt, [⟨0, nv, mk⟩]⟩ = false := by
                              rw [shape_one (c := ⟨2, pt, [⟨0, nv, mk⟩]⟩) (.inl rfl) rfl H0.out, decide_eq_true (show (⟨0, nv, mk⟩ : Hunk).old = 0 from rfl)]
                              exact decide_eq_false n0
                            have HE : Hid (patchFault t = (0, 2)) := by rw [Hid, hG.out]; exact pg_bad HD.out (.inr (HCF.out.2 hsh)) (.inl hsh) HCF.out.2
                            have n0' : (0 : Int) < (those mk 43).length := by omega
                            have n0'' := decide_eq_true n0'
                            have n0n : 0 < (those mk 43).length := by omega
                            clear hG hsh n0
                            go_wp2_with fail
                            go_ret2
                            exact ⟨by rw [HE.out]; rfl, hcE⟩
                        · subst k3
                          clear t1 t1' k1
                          go_upto_region 18 with fail
                          generalize w6.alloc (.cells #[.int .i64 0, .int .i64 nv, .slice xa mk.length xc] 50) = w7 at hBx hAx ⊢
                          clear x0 x1 x2
                          obtain ⟨x0, _, x2⟩ := hBx.cell
                          have d0 := hAx.cellNever d0
                          go_wp2_with fail
                          refine (refNew_any mk _ _ (hmv.never (hcE.trans hAx)) HMK.out).mono ?_
                          rintro e w8 ⟨r8, rfl, hc8, hr8⟩
                          obtain ⟨ra, rc, rfl, _, _, _⟩ := rdv_slice hr8
                          have hcE := (hcE.trans hAx).trans hc8
                          have d0 := hc8.cellNever d0
                          have x0 := hc8.cellNever x0
                          have x2 := hc8.cellNever x2
                          clear hr8 hc8 hAx d1 d2
                          by_cases n0 : (those mk 45).length = 0
                          · have hsh : shapeB ⟨3, pt, [⟨0, nv, mk⟩]⟩ = true := by
                              rw [shape_one (c := ⟨3, pt, [⟨0, nv, mk⟩]⟩) (.inr rfl) rfl H0.out, decide_eq_true (show (⟨0, nv, mk⟩ : Hunk).old = 0 from rfl)]
                              exact decide_eq_true n0
                            have HNX : Hid (patchFault t = patchGo (0 + 1) (prevC t (0 + 1)) (t.drop (0 + 1))) := by rw [Hid, HPV.out, hG.out]; exact patchGo_next HD.out (HCF.out.1 hsh) HO.out
                            have n0' : ¬ (0 : Int) < (those mk 45).length := by omega
                            have n0'' := decide_eq_false n0'
                            have n0n : ¬ 0 < (those mk 45).length := by omega
                            clear hG hsh n0
                            go_wp2_with fail
                            go_roundw
                            case rel => exact ⟨0 + 1, by omega, by go_num, hcE, HNX.out⟩
                            case measure => simp [intOf] <;> omega
                          · have hsh : shapeB ⟨3, pt, [⟨0, nv, mk⟩]⟩ = false := by
                              rw [shape_one (c := ⟨3, pt, [⟨0, nv, mk⟩]⟩) (.inr rfl) rfl H0.out, decide_eq_true (show (⟨0, nv, mk⟩ : Hunk).old = 0 from rfl)]
                              exact decide_eq_false n0
                            have HE : Hid (patchFault t = (0, 2)) := by rw [Hid, hG.out]; exact pg_bad HD.out (.inr (HCF.out.2 hsh)) (.inl hsh) HCF.out.2
                            have n0' : (0 : Int) < (those mk 45).length := by omega
                            have n0'' := decide_eq_true n0'
                            have n0n : 0 < (those mk 45).length := by omega
                            clear hG hsh n0
                            go_wp2_with fail
                            go_ret2
                            exact ⟨by rw [HE.out]; rfl, hcE⟩
                      · have o0 : (ov == 0) = false := by simp [o]
                        have hBx := Blk3.new w6 50 (.int .i64 ov) (.int .i64 nv) (.slice xa mk.length xc)
                        have hAx : Chg Never w6 (w6.alloc (.cells #[.int .i64 ov, .int .i64 nv, .slice xa mk.length xc] 50)) := (Chg.refl Never w6).alloc _
                        have o1 : (ov != 0) = true := by simp [o]
                        have hsh : shapeB ⟨wh, pt, [⟨ov, nv, mk⟩]⟩ = false := by rw [shape_one (c := ⟨wh, pt, [⟨ov, nv, mk⟩]⟩) k23 rfl H0.out, decide_eq_false o]; rfl
                        have HE : Hid (patchFault t = (0, 2)) := by rw [Hid, hG.out]; exact pg_bad HD.out (.inr (HCF.out.2 hsh)) (.inl hsh) HCF.out.2
                        clear hG hsh k1 k23 o
                        go_wp2_with fail
                        go_ret2
                        exact ⟨by rw [HE.out]; rfl, hcE.trans hAx⟩
              · obtain ⟨k', rfl⟩ : ∃ k', k = k' + 1 := ⟨k - 1, by omega⟩
                obtain ⟨y, hy⟩ : ∃ y, t[k']? = some y := ⟨t[k']'(by omega), by simp [show k' < t.length by omega]⟩
                obtain ⟨b', off', lv', hbo, _, _, _, y0, _, _, _⟩ := elems_change h3 hy
                simp only [Option.some.injEq, Addr.mk.injEq, and_true] at hbo
                obtain ⟨rfl, rfl⟩ := hbo
                have y0 := hcD.cellNever y0
                have HPY : Hid (prevC t (k' + 1) = some y.path) := prevC_succ hy
                have z1 : (k' : Int) + 1 - 1 = k' := by omega
                have z2 : decide ((0 : Int) < (k' : Int) + 1) = true := decide_eq_true (by omega)
                clear hy
                rcases less_tri pt y.path with g | g | g
                · have HO : Hid ((prevC t (k' + 1)).any (fun p => leqB pt p) = true) := by rw [Hid, HPY.out]; exact leqB_true.2 (less_asymm g)
                  have a1 : Op.bytesLess pt.toList y.path.toList = true := g
                  clear g
                  have HE : Hid (patchFault t = (k' + 1, 2)) := by
                    rw [Hid, hG.out]
                    refine pg_bad HD.out ?_ (.inr HO.out) HCF.out.2
                    cases hsb : shapeB ⟨wh, pt, hs⟩ with
                    | true => exact .inl (HCF.out.1 hsb)
                    | false => exact .inr (HCF.out.2 hsb)
                  clear hG
                  by_cases k1 : wh = 1
                  · subst k1
                    by_cases hs0 : hs = []
                    · subst hs0
                      go_wp2_with fail
                      go_quiet (fail)
                      go_wp2_with fail
                      go_ret2
                      exact ⟨by rw [HE.out]; rfl, hcD.drewN _⟩
                    · have t0 : ((hs.length : Int) == 0) = false := beq_eq_false_iff_ne.2 (by have := List.length_pos_iff.2 hs0; omega)
                      clear hs0
                      go_wp2_with fail
                      go_quiet (fail)
                      go_wp2_with fail
                      go_ret2
                      exact ⟨by rw [HE.out]; rfl, hcD.drewN _⟩
                  · have t1 : (wh == 1) = false := by simp [k1]
                    have t1' : (wh != 1) = true := by simp [k1]
                    clear k1
                    by_cases gm : (1 : Int) < hs.length
                    · have gm' := decide_eq_true gm
                      go_wp2_with fail
                      go_quiet (fail)
                      go_wp2_with fail
                      go_ret2
                      exact ⟨by rw [HE.out]; rfl, hcD.drewN _⟩
                    · have gm' := decide_eq_false gm
                      go_wp2_with fail
                      go_quiet (fail)
                      go_wp2_with fail
                      go_ret2
                      exact ⟨by rw [HE.out]; rfl, hcD.drewN _⟩
                · have HO : Hid ((prevC t (k' + 1)).any (fun p => leqB pt p) = true) := by rw [Hid, HPY.out]; exact leqB_true.2 (by rw [g]; exact less_irrefl _)
                  have a1 : Op.bytesLess pt.toList y.path.toList = false := by rw [g]; exact bl_irrefl _
                  have a2 : (pt.toList == y.path.toList) = true := by rw [g]; exact beq_self_eq_true _
                  clear g
                  have HE : Hid (patchFault t = (k' + 1, 2)) := by
                    rw [Hid, hG.out]
                    refine pg_bad HD.out ?_ (.inr HO.out) HCF.out.2
                    cases hsb : shapeB ⟨wh, pt, hs⟩ with
                    | true => exact .inl (HCF.out.1 hsb)
                    | false => exact .inr (HCF.out.2 hsb)
                  clear hG
                  by_cases k1 : wh = 1
                  · subst k1
                    by_cases hs0 : hs = []
                    · subst hs0
                      go_wp2_with fail
                      go_quiet (fail)
                      go_wp2_with fail
                      go_ret2
                      exact ⟨by rw [HE.out]; rfl, hcD.drewN _⟩
                    · have t0 : ((hs.length : Int) == 0) = false := beq_eq_false_iff_ne.2 (by have := List.length_pos_iff.2 hs0; omega)
                      clear hs0
                      go_wp2_with fail
                      go_quiet (fail)
                      go_wp2_with fail
                      go_ret2
                      exact ⟨by rw [HE.out]; rfl, hcD.drewN _⟩
                  · have t1 : (wh == 1) = false := by simp [k1]
                    have t1' : (wh != 1) = true := by simp [k1]
                    clear k1
                    by_cases gm : (1 : Int) < hs.length
                    · have gm' := decide_eq_true gm
                      go_wp2_with fail
                      go_quiet (fail)
                      go_wp2_with fail
                      go_ret2
                      exact ⟨by rw [HE.out]; rfl, hcD.drewN _⟩
                    · have gm' := decide_eq_false gm
                      go_wp2_with fail
                      go_quiet (fail)
                      go_wp2_with fail
                      go_ret2
                      exact ⟨by rw [HE.out]; rfl, hcD.drewN _⟩
                · have HO : Hid ((prevC t (k' + 1)).any (fun p => leqB pt p) = false) := by
                    rw [Hid, HPY.out, Option.any_some, Bool.eq_false_iff]
                    intro e
                    rw [leqB_true.1 e] at g; cases g
                  have a1 : Op.bytesLess pt.toList y.path.toList = false := less_asymm g
                  have a2 := str_beq_false (less_ne g).symm
                  clear g
                  by_cases k1 : wh = 1
                  · subst k1
                    by_cases hs0 : hs = []
                    · subst hs0
                      have hsh : shapeB ⟨1, pt, []⟩ = false := shape_edit0 rfl rfl
                      have HE : Hid (patchFault t = (k' + 1, 2)) := by rw [Hid, hG.out]; exact pg_bad HD.out (.inr (HCF.out.2 hsh)) (.inl hsh) HCF.out.2
                      clear hG hsh
                      go_wp2_with fail
                      go_quiet (fail)
                      go_wp2_with fail
                      go_ret2
                      exact ⟨by rw [HE.out]; rfl, hcD.drewN _⟩
                    · have t0 : ((hs.length : Int) == 0) = false := beq_eq_false_iff_ne.2 (by have := List.length_pos_iff.2 hs0; omega)
                      have hsh : shapeB ⟨1, pt, hs⟩ = true := shape_edit rfl hs0
                      have HNX : Hid (patchFault t = patchGo (k' + 1 + 1) (prevC t (k' + 1 + 1)) (t.drop (k' + 1 + 1))) := by rw [Hid, HPV.out, hG.out]; exact patchGo_next HD.out (HCF.out.1 hsh) HO.out
                      clear hs0 hG hsh
                      go_wp2_with fail
                      go_quiet (fail)
                      generalize hqq : World.drewN w5 _ = w6
                      have hq : Chg Never w5 w6 := hqq ▸ (Chg.refl Never w5).drewN _
                      clear hqq
                      have hcE := hcD.trans hq
                      have d0 := hq.cellNever d0
                      have d1 := hq.cellNever d1
                      have d2 := hq.cellNever d2
                      clear hq hcD
                      go_wp2_with fail
                      go_roundw
                      case rel => exact ⟨k' + 1 + 1, by omega, by go_num, hcE, HNX.out⟩
                      case measure => simp [intOf] <;> omega
                  · have t1 : (wh == 1) = false := by simp [k1]
                    have t1' : (wh != 1) = true := by simp [k1]
                    have k23 : wh = 2 ∨ wh = 3 := by omega
                    by_cases gm : (1 : Int) < hs.length
                    · have gm' := decide_eq_true gm
                      have hsh : shapeB ⟨wh, pt, hs⟩ = false := shape_many k23 (by show 2 ≤ hs.length; omega)
                      have HE : Hid (patchFault t = (k' + 1, 2)) := by rw [Hid, hG.out]; exact pg_bad HD.out (.inr (HCF.out.2 hsh)) (.inl hsh) HCF.out.2
                      clear hG hsh k1 k23
                      go_wp2_with fail
                      go_quiet (fail)
                      go_wp2_with fail
                      go_ret2
                      exact ⟨by rw [HE.out]; rfl, hcD.drewN _⟩
                    · have gm' := decide_eq_false gm
                      by_cases hs0 : hs = []
                      · subst hs0
                        have hsh : shapeB ⟨wh, pt, []⟩ = true := shape_none k23 rfl
                        have HNX : Hid (patchFault t = patchGo (k' + 1 + 1) (prevC t (k' + 1 + 1)) (t.drop (k' + 1 + 1))) := by rw [Hid, HPV.out, hG.out]; exact patchGo_next HD.out (HCF.out.1 hsh) HO.out
                        clear hG hsh k1 k23 gm gm'
                        go_wp2_with fail
                        go_quiet (fail)
                        generalize hqq : World.drewN w5 _ = w6
                        have hq : Chg Never w5 w6 := hqq ▸ (Chg.refl Never w5).drewN _
                        clear hqq
                        have hcE := hcD.trans hq
                        have d0 := hq.cellNever d0
                        have d1 := hq.cellNever d1
                        have d2 := hq.cellNever d2
                        clear hq hcD
                        go_wp2_with fail
                        go_roundw
                        case rel => exact ⟨k' + 1 + 1, by omega, by go_num, hcE, HNX.out⟩
                        case measure => simp [intOf] <;> omega
                      · obtain ⟨x, rfl⟩ : ∃ x, hs = [x] := by
                          match hs, hs0, gm with
                          | [x], _, _ => exact ⟨x, rfl⟩
                          | a :: b :: r, _, gm => exact absurd (by simp; omega) gm
                        clear gm gm' hs0
                        obtain ⟨ov, nv, mk⟩ := x
                        have HMK : Hid (scriptFault mk = 0) := hOk_mem _ _ _ (hunksFault_zero H0.out).2 ⟨ov, nv, mk⟩ (List.mem_singleton.2 rfl)
                        go_wp2_with fail
                        go_quiet (fail)
                        generalize hqq : World.drewN w5 _ = w6
                        have hq : Chg Never w5 w6 := hqq ▸ (Chg.refl Never w5).drewN _
                        clear hqq
                        have hcE := hcD.trans hq
                        have d0 := hq.cellNever d0
                        have d1 := hq.cellNever d1
                        have d2 := hq.cellNever d2
                        clear hq hcD
                        obtain ⟨xb, xo, xv, hxa, _, _, x0, x1, x2, hmv⟩ := elems_hunk hlh (i := 0) rfl
                        subst hxa
                        simp only [Nat.zero_mul, Nat.add_zero] at x0 x1 x2 hmv
                        have x0 := hcE.cellNever x0
                        have x1 := hcE.cellNever x1
                        have x2 := hcE.cellNever x2
                        obtain ⟨xa, xc, rfl, _, _, _⟩ := rdv_slice hmv
                        by_cases o : ov = 0
                        · subst o
                          have hBx := Blk3.new w6 50 (.int .i64 0) (.int .i64 nv) (.slice xa mk.length xc)
                          have hAx : Chg Never w6 (w6.alloc (.cells #[.int .i64 0, .int .i64 nv, .slice xa mk.length xc] 50)) := (Chg.refl Never w6).alloc _
                          rcases k23 with k2 | k3
                          · subst k2
                            clear t1 t1' k1
                            go_upto_region 18 with fail
                            generalize w6.alloc (.cells #[.int .i64 0, .int .i64 nv, .slice xa mk.length xc] 50) = w7 at hBx hAx ⊢
                            clear x0 x1 x2
                            obtain ⟨x0, _, x2⟩ := hBx.cell
                            have d0 := hAx.cellNever d0
                            go_wp2_with fail
                            refine (refOld_any mk _ _ (hmv.never (hcE.trans hAx)) HMK.out).mono ?_
                            rintro e w8 ⟨r8, rfl, hc8, hr8⟩
                            obtain ⟨ra, rc, rfl, _, _, _⟩ := rdv_slice hr8
                            have hcE := (hcE.trans hAx).trans hc8
                            have d0 := hc8.cellNever d0
                            have x0 := hc8.cellNever x0
                            have x2 := hc8.cellNever x2
                            clear hr8 hc8 hAx d1 d2
                            by_cases n0 : (those mk 43).length = 0
                            · have hsh : shapeB ⟨2, pt, [⟨0, nv, mk⟩]⟩ = true := by
                                rw [shape_one (c := ⟨2, pt, [⟨0, nv, mk⟩]⟩) (.inl rfl) rfl H0.out, decide_eq_true (show (⟨0, nv, mk⟩ : Hunk).old = 0 from rfl)]
                                exact decide_eq_true n0
                              have HNX : Hid (patchFault t = patchGo (k' + 1 + 1) (prevC t (k' + 1 + 1)) (t.drop (k' + 1 + 1))) := by rw [Hid, HPV.out, hG.out]; exact patchGo_next HD.out (HCF.out.1 hsh) HO.out
                              have n0' : ¬ (0 : Int) < (those mk 43).length := by omega
                              have n0'' := decide_eq_false n0'
                              have n0n : ¬ 0 < (those mk 43).length := by omega
                              clear hG hsh n0
                              go_wp2_with fail
                              go_roundw
                              case rel => exact ⟨k' + 1 + 1, by omega, by go_num, hcE, HNX.out⟩
                              case measure => simp [intOf] <;> omega
                            · have hsh : shapeB ⟨2, pt, [⟨0, nv, mk⟩]⟩ = false := by
                                rw [shape_one (c := ⟨2, pt, [⟨0, nv, mk⟩]⟩) (.inl rfl) rfl H0.out, decide_eq_true (show (⟨0, nv, mk⟩ : Hunk).old = 0 from rfl)]
                                exact decide_eq_false n0
                              have HE : Hid (patchFault t = (k' + 1, 2)) := by rw [Hid, hG.out]; exact pg_bad HD.out (.inr (HCF.out.2 hsh)) (.inl hsh) HCF.out.2
                              have n0' : (0 : Int) < (those mk 43).length := by omega
                              have n0'' := decide_eq_true n0'
                              have n0n : 0 < (those mk 43).length := by omega
                              clear hG hsh n0
                              go_wp2_with fail
                              go_ret2
                              exact ⟨by rw [HE.out]; rfl, hcE⟩
                          · subst k3
                            clear t1 t1' k1
                            go_upto_region 18 with fail
                            generalize w6.alloc (.cells #[.int .i64 0, .int .i64 nv, .slice xa mk.length xc] 50) = w7 at hBx hAx ⊢
                            clear x0 x1 x2
                            obtain ⟨x0, _, x2⟩ := hBx.cell
                            have d0 := hAx.cellNever d0
                            go_wp2_with fail
                            refine (refNew_any mk _ _ (hmv.never (hcE.trans hAx)) HMK.out).mono ?_
                            rintro e w8 ⟨r8, rfl, hc8, hr8⟩
                            obtain ⟨ra, rc, rfl, _, _, _⟩ := rdv_slice hr8
                            have hcE := (hcE.trans hAx).trans hc8
                            have d0 := hc8.cellNever d0
                            have x0 := hc8.cellNever x0
                            have x2 := hc8.cellNever x2
                            clear hr8 hc8 hAx d1 d2
                            by_cases n0 : (those mk 45).length = 0
                            · have hsh : shapeB ⟨3, pt, [⟨0, nv, mk⟩]⟩ = true := by
                                rw [shape_one (c := ⟨3, pt, [⟨0, nv, mk⟩]⟩) (.inr rfl) rfl H0.out, decide_eq_true (show (⟨0, nv, mk⟩ : Hunk).old = 0 from rfl)]
                                exact decide_eq_true n0
                              have HNX : Hid (patchFault t = patchGo (k' + 1 + 1) (prevC t (k' + 1 + 1)) (t.drop (k' + 1 + 1))) := by rw [Hid, HPV.out, hG.out]; exact patchGo_next HD.out (HCF.out.1 hsh) HO.out
                              have n0' : ¬ (0 : Int) < (those mk 45).length := by omega
                              have n0'' := decide_eq_false n0'
                              have n0n : ¬ 0 < (those mk 45).length := by omega
                              clear hG hsh n0
                              go_wp2_with fail
                              go_roundw
                              case rel => exact ⟨k' + 1 + 1, by omega, by go_num, hcE, HNX.out⟩
                              case measure => simp [intOf] <;> omega
                            · have hsh : shapeB ⟨3, pt, [⟨0, nv, mk⟩]⟩ = false := by
                                rw [shape_one (c := ⟨3, pt, [⟨0, nv, mk⟩]⟩) (.inr rfl) rfl H0.out, decide_eq_true (show (⟨0, nv, mk⟩ : Hunk).old = 0 from rfl)]
                                exact decide_eq_false n0
                              have HE : Hid (patchFault t = (k' + 1, 2)) := by rw [Hid, hG.out]; exact pg_bad HD.out (.inr (HCF.out.2 hsh)) (.inl hsh) HCF.out.2
                              have n0' : (0 : Int) < (those mk 45).length := by omega
                              have n0'' := decide_eq_true n0'
                              have n0n : 0 < (those mk 45).length := by omega
                              clear hG hsh n0
                              go_wp2_with fail
                              go_ret2
                              exact ⟨by rw [HE.out]; rfl, hcE⟩
                        · have o0 : (ov == 0) = false := by simp [o]
                          have hBx := Blk3.new w6 50 (.int .i64 ov) (.int .i64 nv) (.slice xa mk.length xc)
                          have hAx : Chg Never w6 (w6.alloc (.cells #[.int .i64 ov, .int .i64 nv, .slice xa mk.length xc] 50)) := (Chg.refl Never w6).alloc _
                          have o1 : (ov != 0) = true := by simp [o]
                          have hsh : shapeB ⟨wh, pt, [⟨ov, nv, mk⟩]⟩ = false := by rw [shape_one (c := ⟨wh, pt, [⟨ov, nv, mk⟩]⟩) k23 rfl H0.out, decide_eq_false o]; rfl
                          have HE : Hid (patchFault t = (k' + 1, 2)) := by rw [Hid, hG.out]; exact pg_bad HD.out (.inr (HCF.out.2 hsh)) (.inl hsh) HCF.out.2
                          clear hG hsh k1 k23 o
                          go_wp2_with fail
                          go_ret2
                          exact ⟨by rw [HE.out]; rfl, hcE.trans hAx⟩
            · have HE : Hid (patchFault t = (k, (hunksFault hs).2)) := by rw [Hid, hG.out, patchGo_bad HD.out (by rw [cf_hunks (c := ⟨wh, pt, hs⟩) r z y]; exact y), cf_hunks (c := ⟨wh, pt, hs⟩) r z y]
              have y0 : ((hunksFault hs).2 == 0) = false := by simp [y]
              have y1 : ((hunksFault hs).2 != 0) = true := by simp [y]
              clear r z y hG
              go_wp2_with fail
              generalize wr.alloc (.cells #[.int .i64 wh, .string pt, .slice la hs.length lcap] 25) = w3 at hA d0 d1 d2 ⊢
              have hc3 := hc.trans hA
              clear hA c0 c1 c2
              refine (refPath_any pt _).mono ?_
              rintro e w4 ⟨rfl, hc4⟩
              have d0 := hc4.cellNever d0
              have d1 := hc4.cellNever d1
              have d2 := hc4.cellNever d2
              have hcD := hc3.trans hc4
              clear hc3 hc4
              rw [P0.out]
              go_wp2_with fail
              refine (refHunks_any hs _ _ (hlv.never hcD)).mono ?_
              rintro e w5 ⟨rfl, hc5⟩
              have d0 := hc5.cellNever d0
              have d1 := hc5.cellNever d1
              have d2 := hc5.cellNever d2
              have hcD := hcD.trans hc5
              clear hc5
              go_wp2_with fail
              go_ret2
              exact ⟨by rw [HE.out]; rfl, hcD⟩
          · have HE : Hid (patchFault t = (k, pathFault pt)) := by rw [Hid, hG.out, patchGo_bad HD.out (by rw [cf_path (c := ⟨wh, pt, hs⟩) r z]; exact z), cf_path (c := ⟨wh, pt, hs⟩) r z]
            have z0 : (pathFault pt == 0) = false := by simp [z]
            have z1 : (pathFault pt != 0) = true := by simp [z]
            clear r z hG
            go_wp2_with fail
            generalize wr.alloc (.cells #[.int .i64 wh, .string pt, .slice la hs.length lcap] 25) = w3 at hA d0 d1 d2 ⊢
            have hc3 := hc.trans hA
            clear hA c0 c1 c2
            refine (refPath_any pt _).mono ?_
            rintro e w4 ⟨rfl, hc4⟩
            have d0 := hc4.cellNever d0
            have d1 := hc4.cellNever d1
            have d2 := hc4.cellNever d2
            have hcD := hc3.trans hc4
            clear hc3 hc4
            go_wp2_with fail
            go_ret2
            exact ⟨by rw [HE.out]; rfl, hcD⟩
      · obtain rfl : k = t.length := by omega
        have e := hG.out
        rw [patchGo_end] at e
        have HE := Lib.hid e
        clear hG e
        go_wp2_with fail
        go_ret2
        exact ⟨by rw [HE.out]; rfl, hc⟩
end Go.Proofs.YtgabchhplmncnaaDoor
namespace Go.Proofs.YtgabchhplmncnaaDoor
open Go.RowKit

set_option maxHeartbeats 1000000 in
set_option maxRecDepth 100000 in
theorem has_any (l : List Int) (n : Int) (v : Value) (w : World) (h : Rdv w Never v l) :
    Calls Tryd.prog 6 #[v, .int .i64 n] w fun e w' => e = .returned (.bool (decide (n ∈ l))) ∧ w' = w := by
  obtain ⟨a, cap, rfl, h1, h2, h3⟩ := rdv_slice h
  unfold maxLen at h2
  go_enter Tryd.func6, Tryd.ntmps6
  go_wp2_with fail
  go_loop [5] (fun i => ∃ k : Nat, k ≤ l.length ∧ i = .int .i64 k ∧ Hid ((n ∈ l) = (n ∈ l.drop k))) (fun i => l.length - (intOf i).toNat)
  case atStart => exact ⟨0, Nat.zero_le _, rfl, rfl⟩
  case round =>
    obtain ⟨k, hk, rfl, hf⟩ := hrel
    by_cases hlt : k < l.length
    · obtain ⟨x, hx⟩ : ∃ x, l[k]? = some x := ⟨l[k], by simp [hlt]⟩
      obtain ⟨b, off, rfl, _, hcx, _⟩ := elems_ints h3 hx
      have HX := Lib.hid (drop_eq hx)
      clear h3 h hx
      by_cases hxn : x = n
      · have t1 : (x == n) = true := by simp [hxn]
        have HI : Hid (decide (n ∈ l) = true) := by rw [Hid, decide_eq_true_eq, hf.out, HX.out, hxn]; simp
        clear hxn
        go_wp2_with fail
        go_ret
        exact ⟨by rw [HI.out]; rfl, rfl⟩
      · have t1 : (x == n) = false := by simp [hxn]
        have HI : Hid ((n ∈ l) = (n ∈ l.drop (k + 1))) := by rw [Hid, hf.out, HX.out]; simp [Ne.symm hxn]
        clear hxn
        go_wp2_with fail
        go_round
        case rel => exact ⟨k + 1, by omega, by go_num, HI.out⟩
        case measure => simp [intOf]; omega
    · have HI : Hid (decide (n ∈ l) = false) := by rw [Hid, decide_eq_false_iff_not, hf.out, List.drop_eq_nil_of_le (by omega)]; simp
      go_wp2_with fail
      go_ret
      exact ⟨by rw [HI.out]; rfl, rfl⟩
end Go.Proofs.YtgabchhplmncnaaDoor
namespace Go.Proofs.YtgabchhplmncnaaDoor
open Go.RowKit

theorem pair_size (w : World) : (sizeOf 3).run Tryd.prog w = .ok 1 w := by kernel_rfl
theorem pair_part0 (w : World) (a b : Int) : (part 3 #[.int .i64 a, .int .i64 b] 0).run Tryd.prog w = .ok (.int .i64 a) w := by simp [part, go_sem]
theorem pair_part1 (w : World) (a b : Int) : (part 3 #[.int .i64 a, .int .i64 b] 1).run Tryd.prog w = .ok (.int .i64 b) w := by simp [part, go_sem]
theorem pair_eqD {P : Program} {t e : TypeId} (hu : P.underlying t = some (.array 2 e)) (he : P.underlying e = some (.int .i64)) (hs : ∀ w, (sizeOf e).run P w = .ok 1 w)
    (h0 : ∀ w a b, (part e #[.int .i64 a, .int .i64 b] 0).run P w = .ok (.int .i64 a) w) (h1 : ∀ w a b, (part e #[.int .i64 a, .int .i64 b] 1).run P w = .ok (.int .i64 b) w) (k : Nat) (w : World) (a b c d : Int) :
    (Op.equalIn (k + 2) t (.agg #[.int .i64 a, .int .i64 b]) (.agg #[.int .i64 c, .int .i64 d])).run P w = .ok (a == c && b == d) w := by
  have hI : ∀ w (x y : Int), (Op.equalIn (k + 1) e (.int .i64 x) (.int .i64 y)).run P w = .ok (x == y) w := fun w x y => run_equalIn_int w k e .i64 .i64 x y he
  rw [show k + 2 = (k + 1) + 1 from rfl]
  generalize k + 1 = m at hI
  rw [Op.equalIn]
  simp only [Sem.run_bind, run_underlying hu, Result.andThen_ok, hs]
  have hr : List.range' 0 2 1 = [0, 1] := rfl
  by_cases e1 : a = c <;> by_cases e2 : b = d <;>
    simp [Std.Legacy.Range.forIn_eq_forIn_range', Std.Legacy.Range.size, hr, h0, h1, hI, e1, e2, Sem.run_bind, Sem.run_pure, Result.andThen_ok, List.forIn_cons, List.forIn_nil]
theorem pair_eq (w : World) (a b c d : Int) :
    (Op.equalIn 10000 32 (.agg #[.int .i64 a, .int .i64 b]) (.agg #[.int .i64 c, .int .i64 d])).run Tryd.prog w = .ok (a == c && b == d) w :=
  pair_eqD Tryd.underlying32 Tryd.underlying3 pair_size pair_part0 pair_part1 9998 w a b c d
theorem elems_pair {w : World} {O : Nat → Prop} {a : Option Addr} {l : List (Int × Int)} (h : Elems w O a l) {i : Nat} {x : Int × Int} (hx : l[i]? = some x) :
    ∃ b off, a = some ⟨b, off, none⟩ ∧ ¬ O b ∧ w.cell? ⟨b, off + i * 2, none⟩ = some (.int .i64 x.1) ∧ w.cell? ⟨b, off + i * 2 + 1, none⟩ = some (.int .i64 x.2) := by
  obtain ⟨b, off, es, ha, hb, hcs, rfl⟩ := h i x hx
  refine ⟨b, off, ha, hb, ?_, ?_⟩
  · simpa [Dat.n] using hcs 0 _ rfl
  · simpa [Dat.n] using hcs 1 _ rfl
end Go.Proofs.YtgabchhplmncnaaDoor
namespace Go.Proofs.YtgabchhplmncnaaDoor
open Go.RowKit

theorem range_few {p q : List (List Change)} (h : rangeFault p q = 0) : p.length ≤ 4 ∧ q.length ≤ 4 ∧ (∀ x ∈ p.map rtextOf, x.length ≤ 99000) ∧ (∀ x ∈ q.map rtextOf, x.length ≤ 99000) := by
  unfold rangeFault at h
  by_cases h4 : 4 < p.length ∨ 4 < q.length
  · rw [if_pos h4] at h; cases h
  · rw [if_neg h4, firstOf_zero] at h
    refine ⟨by omega, by omega, fun x hx => ?_, fun x hx => ?_⟩
    all_goals
      obtain ⟨c, hc, rfl⟩ := List.mem_map.1 hx
      unfold rtextOf
      rw [List.length_map]
      exact linesG_few (h c (List.mem_append.2 (by first | exact .inl hc | exact .inr hc)))
theorem range_self {p : List (List Change)} (h : rangeFault p p = 0) : rangeL p p = (List.range p.length).map fun (i : Nat) => ((i : Int), (i : Int)) := by
  obtain ⟨_, _, h3, _⟩ := range_few h
  unfold rangeL
  rw [if_pos h]
  unfold rangeM
  rw [choose_self h3, List.length_map, rangeOut_self]
theorem range_choice {p q : List (List Change)} (h : rangeFault p q = 0) : rangeL p q = rangeOut p.length q.length (rangeM p q) ∧ Choice (p.length + q.length) (rangeM p q) := by
  obtain ⟨_, _, h3, h4⟩ := range_few h
  refine ⟨if_pos h, ?_⟩
  have := choice_of h3 h4
  rw [List.length_map, List.length_map] at this
  exact this
def wrongTo (p : List (List Change)) (k : Nat) : Bool := decide (4 < p.length) || (p.take k).any fun c => (patchFault c).2 != 0
theorem wrong_step {p : List (List Change)} {k : Nat} {x : List Change} (hx : p[k]? = some x) : wrongTo p (k + 1) = (wrongTo p k || (patchFault x).2 != 0) := by
  unfold wrongTo
  rw [List.take_add_one, hx, Option.toList_some, List.any_append, Bool.or_assoc]
  simp
theorem wrong_all {p : List (List Change)} (h : rangeFault p p ≠ 0) : wrongTo p p.length = true := by
  unfold wrongTo
  rw [List.take_of_length_le (Nat.le_refl _)]
  by_cases h4 : 4 < p.length
  · rw [decide_eq_true h4]; rfl
  · rw [decide_eq_false h4, Bool.false_or]
    cases e : p.any fun c => (patchFault c).2 != 0 with
    | true => rfl
    | false =>
      exfalso
      apply h
      unfold rangeFault
      rw [if_neg (by omega), firstOf_zero]
      intro c hc
      rw [List.any_eq_false] at e
      have := e c (by rcases List.mem_append.1 hc with h | h <;> exact h)
      simpa using this
def makeP : Change := ⟨2, toB [97], []⟩
theorem makeP_fault : rangeFault [[makeP]] [[makeP]] = 0 := by decide +kernel
/-- two rows of the call's own, beside each other -/
structure TwoRows (wr : World) (W0 : Nat) (f t : Value) (F T : List Int) : Prop where
  one : Own 3 wr (fun k => Old W0 k ∨ OwnB t k) f F
  two : Own 3 wr (fun k => Old W0 k ∨ OwnB f k) t T
theorem TwoRows.lt {wr : World} {W0 : Nat} {f t : Value} {F T : List Int} (h : TwoRows wr W0 f t F T) (hw : W0 ≤ wr.heap.size) : (∀ k, (Old W0 k ∨ OwnB t k) → k < wr.heap.size) ∧ ∀ k, (Old W0 k ∨ OwnB f k) → k < wr.heap.size := by
  refine ⟨fun k hk => ?_, fun k hk => ?_⟩
  · rcases hk with hk | hk
    · unfold Old at hk; omega
    · exact own_block_lt h.two k hk
  · rcases hk with hk | hk
    · unfold Old at hk; omega
    · exact own_block_lt h.one k hk
theorem TwoRows.push1 {wr w' : World} {W0 : Nat} {f t f' : Value} {F T F' : List Int} (h : TwoRows wr W0 f t F T) (ho : Own 3 w' (fun k => Old W0 k ∨ OwnB t k) f' F') (hc : Chg (OwnB f) wr w') (hk : ∃ k, f'.ownBlock = some k ∧ (f.ownBlock = some k ∨ wr.heap.size ≤ k)) : TwoRows w' W0 f' t F' T :=
  ⟨ho, h.two.keep hc (fun _ _ hh => .inr hh) (fun x hx hh => by
    rcases hh with hh | hh
    · exact .inl hh
    · obtain ⟨j, e1, e2⟩ := hk
      unfold OwnB at hh
      rw [e1] at hh
      injection hh with hh
      subst hh
      rcases e2 with e2 | e2
      · exact .inr e2
      · omega)⟩
theorem TwoRows.push2 {wr w' : World} {W0 : Nat} {f t t' : Value} {F T T' : List Int} (h : TwoRows wr W0 f t F T) (ho : Own 3 w' (fun k => Old W0 k ∨ OwnB f k) t' T') (hc : Chg (OwnB t) wr w') (hk : ∃ k, t'.ownBlock = some k ∧ (t.ownBlock = some k ∨ wr.heap.size ≤ k)) : TwoRows w' W0 f t' F T' :=
  ⟨h.one.keep hc (fun _ _ hh => .inr hh) (fun x hx hh => by
    rcases hh with hh | hh
    · exact .inl hh
    · obtain ⟨j, e1, e2⟩ := hk
      unfold OwnB at hh
      rw [e1] at hh
      injection hh with hh
      subst hh
      rcases e2 with e2 | e2
      · exact .inr e2
      · omega), ho⟩
theorem TwoRows.chg1 {w5 wr w' : World} {f t : Value} {F T : List Int} (h : TwoRows wr w5.heap.size f t F T) (hc : Chg Never w5 wr) (hk : Chg (OwnB f) wr w') : Chg Never w5 w' :=
  hc.trans' hk (fun x hx hh => own_out h.one x hh (.inl hx))
theorem TwoRows.chg2 {w5 wr w' : World} {f t : Value} {F T : List Int} (h : TwoRows wr w5.heap.size f t F T) (hc : Chg Never w5 wr) (hk : Chg (OwnB t) wr w') : Chg Never w5 w' :=
  hc.trans' hk (fun x hx hh => own_out h.two x hh (.inl hx))
set_option maxHeartbeats 4000000 in
set_option maxRecDepth 100000 in
theorem law_rangeSelf (p q : List (List Change)) (vp vq : Value) (w : World) (hp : Rdv w Never vp p) (hq : Rdv w Never vq q) (m : Int) (hm : w.cell? ⟨0, 0, none⟩ = some (.int .i64 m)) :
    Calls Tryd.prog 3 #[vp, vq] w fun e w' => e = .returned (.bool true) ∧ Chg Never w w' := by
  have hp0 := hp
  have hq0 := hq
  obtain ⟨a0, ca, rfl, a1, a2, a3⟩ := rdv_slice hp
  obtain ⟨b0, cb, rfl, b1, b2, -⟩ := rdv_slice hq
  unfold maxLen at a2 b2
  have q1 : Chg Never w (w.alloc (.cells #[.int .i64 2, .string ⟨#[97]⟩, .slice none 0 0] 25)) := (Chg.refl Never w).alloc _
  have m1 : Rdv (w.alloc (.cells #[.int .i64 2, .string ⟨#[97]⟩, .slice none 0 0] 25)) Never (.slice (some ⟨w.heap.size, 0, none⟩) 1 1) [makeP] := rdv_lit (cs := [.int .i64 2, .string ⟨#[97]⟩, .slice none 0 0]) (heap_alloc_new _ _) rfl (by decide) ⟨⟨_, rfl, by decide, rdv_nil _ _⟩, trivial⟩
  obtain ⟨wA, hwA⟩ : ∃ wA, w.alloc (.cells #[.int .i64 2, .string ⟨#[97]⟩, .slice none 0 0] 25) = wA := ⟨_, rfl⟩
  rw [hwA] at q1 m1
  have q2 : Chg Never w (wA.alloc (.cells #[.slice (some ⟨w.heap.size, 0, none⟩) 1 1] 26)) := q1.alloc _
  have r0 : Rdv (wA.alloc (.cells #[.slice (some ⟨w.heap.size, 0, none⟩) 1 1] 26)) Never (.slice (some ⟨wA.heap.size, 0, none⟩) 1 1) [[makeP]] :=
    rdv_lit (cs := [.slice (some ⟨w.heap.size, 0, none⟩) 1 1]) (heap_alloc_new _ _) rfl (by decide) ⟨m1.never ((Chg.refl Never wA).alloc _), trivial⟩
  have HL1 : Hid (rangeL [[makeP]] [[makeP]] = [((0 : Int), (0 : Int))]) := range_self makeP_fault
  clear q1 m1
  go_enter Tryd.func3, Tryd.ntmps3
  go_wp2_with fail
  try rw [hwA]
  (with_reducible refine (range_any [[makeP]] [[makeP]] _ _ _ r0 r0 m (q2.cellNever hm)).mono ?_)
  rintro e w1 ⟨r1, rfl, hc1, hr1⟩
  rw [HL1.out] at hr1
  rw [makeP_fault, errV_zero]
  have hw1 := q2.trans hc1
  clear hwA r0
  obtain ⟨ya, yc, rfl, -, -, y3⟩ := rdv_slice hr1
  obtain ⟨yb, yo, rfl, -, z0, z1⟩ := elems_pair y3 (i := 0) rfl
  simp only [Nat.zero_mul, Nat.add_zero] at z0 z1
  have pe0 : ∀ wx, (Op.equalIn 10000 32 (.agg #[.int .i64 0, .int .i64 0]) (.agg #[.int .i64 0, .int .i64 0])).run Tryd.prog wx = .ok true wx := fun wx => pair_eq wx 0 0 0 0
  clear y3 hr1 hc1 q2
  go_wp2_with fail
  clear pe0
  refine (range_any p p _ _ _ (hp0.never hw1) (hp0.never hw1) m (hw1.cellNever hm)).mono ?_
  rintro e w2 ⟨r2, rfl, hc2, hr2⟩
  have hw2 := hw1.trans hc2
  clear z0 z1 hc2
  by_cases hz : rangeFault p p = 0
  · rw [range_self hz] at hr2
    rw [hz, errV_zero]
    obtain ⟨xa, xc, rfl, x1, x2, x3⟩ := rdv_slice hr2
    unfold maxLen at x2
    have hl : ((List.range p.length).map fun (i : Nat) => ((i : Int), (i : Int))).length = p.length := by simp
    rw [hl] at x1 ⊢
    have tl : ((p.length : Int) != (p.length : Int)) = false := by simp
    clear hz hr2 hl
    go_wp2_with fail
    go_loop [14] (fun iv => ∃ i : Nat, i ≤ p.length ∧ iv = .int .i64 i) (fun iv => p.length - (intOf iv).toNat)
    case atStart => exact ⟨0, Nat.zero_le _, rfl⟩
    case round =>
      obtain ⟨i, hi, rfl⟩ := hrel
      by_cases hlt : i < p.length
      · obtain ⟨b, off, rfl, -, cx, cy⟩ := elems_pair x3 (i := i) (x := ((i : Int), (i : Int))) (by rw [List.getElem?_map, List.getElem?_range hlt]; rfl)
        have pe : ∀ wx, (Op.equalIn 10000 32 (.agg #[.int .i64 i, .int .i64 i]) (.agg #[.int .i64 i, .int .i64 i])).run Tryd.prog wx = .ok true wx := fun wx => by rw [pair_eq]; simp
        clear x3
        go_wp2_with fail
        go_round
        case rel => exact ⟨i + 1, by omega, by go_num⟩
        case measure => simp [intOf]; omega
      · clear x3
        go_wp2_with fail
        refine (range_any p q _ _ _ (hp0.never hw2) (hq0.never hw2) m (hw2.cellNever hm)).mono ?_
        rintro e w5 ⟨r5, rfl, hc5, hr5⟩
        have hw5 := hw2.trans hc5
        by_cases hz : rangeFault p q = 0
        · obtain ⟨hL, hC⟩ := range_choice hz
          obtain ⟨hp4, hq4, -, -⟩ := range_few hz
          have HC := Lib.hid hC
          rw [hL] at hr5
          rw [hz, errV_zero]
          obtain ⟨xa, xc, rfl, x1, x2, x3⟩ := rdv_slice hr5
          unfold maxLen at x2
          have HT1 := Lib.hid (told_firsts (a := p.length) (b := q.length) (m := rangeM p q))
          have HT2 := Lib.hid (told_thens hC)
          have hLl : (rangeOut p.length q.length (rangeM p q)).length ≤ 1000 := by
            unfold rangeOut
            rw [List.length_append, List.length_map, List.length_map, List.length_range]
            have := List.length_filter_le (fun (k : Nat) => decide ((k : Int) ∈ (rangeM p q).drop p.length)) (List.range q.length)
            rw [List.length_range] at this
            omega
          have HEA := fun i x y hx => Lib.hid (told_each hC (i := i) (x := x) (y := y) hx)
          generalize rangeOut p.length q.length (rangeM p q) = L at hr5 x1 x3 HT1 HT2 HEA hLl ⊢
          clear hL hz hC hr5 hc5
          go_wp2_with fail
          go_loopw [15, 16, 17] (fun fv tv iv wr => ∃ i : Nat, i ≤ L.length ∧ iv = .int .i64 i ∧ Chg Never w5 wr ∧ TwoRows wr w5.heap.size fv tv (firstsL (L.take i)) (thensL (L.take i))) (fun _ _ iv _ => L.length - (intOf iv).toNat)
          case atStart => exact ⟨0, Nat.zero_le _, rfl, Chg.refl _ _, ⟨own_nil _ _ _, own_nil _ _ _⟩⟩
          case round =>
            obtain ⟨i, hi, rfl, hc, h2⟩ := hrel
            rename World => wr
            obtain ⟨fa, fn, fc, rfl⟩ := own_isSlice h2.one
            obtain ⟨ta, tn, tc, rfl⟩ := own_isSlice h2.two
            by_cases hlt : i < L.length
            · obtain ⟨⟨x, y⟩, hx⟩ : ∃ z, L[i]? = some z := ⟨L[i], by simp [hlt]⟩
              obtain ⟨e1, e2, e3, e4, e5⟩ := (HEA i x y hx).out
              obtain ⟨b, off, rfl, -, cx, cy⟩ := elems_pair x3 hx
              have cx := hc.cellNever cx
              have cy := hc.cellNever cy
              have f1 := Lib.hid (firstsL_take hx)
              have f2 := Lib.hid (thensL_take hx)
              have hA1 := has_any (firstsL (L.take i)) x _ wr (h2.one.rdv.sub (fun _ _ h => h.elim))
              have hA2 := has_any (thensL (L.take i)) y _ wr (h2.two.rdv.sub (fun _ _ h => h.elim))
              rw [decide_eq_false e4] at hA1
              rw [decide_eq_false e5] at hA2
              have hA1 := Lib.hid hA1
              have hA2 := Lib.hid hA2
              have ta1 : decide ((p.length : Int) ≤ x) = false := decide_eq_false (by omega)
              have tb1 : decide ((q.length : Int) ≤ y) = false := decide_eq_false (by omega)
              obtain ⟨o1, o2⟩ := h2.lt hc.size
              have hl1 : (firstsL (L.take i)).length ≤ 1000000000 := by unfold firstsL; have := List.length_filter_le (fun (x : Int) => decide (0 ≤ x)) ((L.take i).map (·.1)); rw [List.length_map, List.length_take] at this; omega
              have hl2 : (thensL (L.take i)).length ≤ 1000000000 := by unfold thensL; have := List.length_filter_le (fun (x : Int) => decide (0 ≤ x)) ((L.take i).map (·.2)); rw [List.length_map, List.length_take] at this; omega
              clear hx e4 e5 x3
              by_cases x0 : x < 0
              · have y0 : ¬ y < 0 := fun h => e1 ⟨x0, h⟩
                have t1 : decide (x < 0) = true := decide_eq_true x0
                have t2 : decide (y < 0) = false := decide_eq_false y0
                have t3 : decide (0 ≤ x) = false := decide_eq_false (by omega)
                have t4 : decide (0 ≤ y) = true := decide_eq_true (by omega)
                have g1 : Hid (firstsL (L.take (i + 1)) = firstsL (L.take i)) := by rw [Hid, f1.out, if_neg (by omega), List.append_nil]
                have g2 : Hid (thensL (L.take (i + 1)) = thensL (L.take i) ++ [y]) := by rw [Hid, f2.out, if_pos (by omega)]
                have hyi : I64 y := by unfold I64; omega
                clear e1 f1 f2
                go_wp2_with fail
                refine hA1.out.mono ?_
                rintro e wz ⟨rfl, rfl⟩
                rename World => wr
                go_wp2_with fail
                refine hA2.out.mono ?_
                rintro e wz ⟨rfl, rfl⟩
                rename World => wr
                clear hA1 hA2
                go_wp2_with (at_builtin; refine wpList_push (by rfl) _ _ 36 (by rfl) elemOk_ints (O := fun k => Old w5.heap.size k ∨ OwnB (.slice fa fn fc) k) (l := thensL (L.take i)) (y := y) (by rfl) (by rfl) (by simp) h2.two ⟨rfl, hyi⟩ o2 hl2 ?_; intro v' w7 hown7 hc7 hk7)
                have h3 := h2.push2 hown7 hc7 hk7
                have hc3 := h2.chg2 hc hc7
                clear hc7 hown7 h2
                go_wp2_with fail
                go_roundw
                case rel => exact ⟨i + 1, by omega, by go_num, hc3, by rw [g1.out, g2.out]; exact h3⟩
                case measure => simp [intOf] <;> omega
              · have t1 : decide (x < 0) = false := decide_eq_false x0
                have t3 : decide (0 ≤ x) = true := decide_eq_true (by omega)
                have g1 : Hid (firstsL (L.take (i + 1)) = firstsL (L.take i) ++ [x]) := by rw [Hid, f1.out, if_pos (by omega)]
                have hxi : I64 x := by unfold I64; omega
                by_cases y0 : y < 0
                · have t4 : decide (0 ≤ y) = false := decide_eq_false (by omega)
                  have g2 : Hid (thensL (L.take (i + 1)) = thensL (L.take i)) := by rw [Hid, f2.out, if_neg (by omega), List.append_nil]
                  clear e1 f1 f2
                  go_wp2_with fail
                  refine hA1.out.mono ?_
                  rintro e wz ⟨rfl, rfl⟩
                  rename World => wr
                  go_wp2_with fail
                  refine hA2.out.mono ?_
                  rintro e wz ⟨rfl, rfl⟩
                  rename World => wr
                  clear hA1 hA2
                  go_wp2_with (at_builtin; refine wpList_push (by rfl) _ _ 36 (by rfl) elemOk_ints (O := fun k => Old w5.heap.size k ∨ OwnB (.slice ta tn tc) k) (l := firstsL (L.take i)) (y := x) (by rfl) (by rfl) (by simp) h2.one ⟨rfl, hxi⟩ o1 hl1 ?_; intro v' w7 hown7 hc7 hk7)
                  have h3 := h2.push1 hown7 hc7 hk7
                  have hc3 := h2.chg1 hc hc7
                  clear hc7 hown7 h2
                  go_wp2_with fail
                  go_roundw
                  case rel => exact ⟨i + 1, by omega, by go_num, hc3, by rw [g1.out, g2.out]; exact h3⟩
                  case measure => simp [intOf] <;> omega
                · have t4 : decide (0 ≤ y) = true := decide_eq_true (by omega)
                  have g2 : Hid (thensL (L.take (i + 1)) = thensL (L.take i) ++ [y]) := by rw [Hid, f2.out, if_pos (by omega)]
                  have hyi : I64 y := by unfold I64; omega
                  clear e1 f1 f2
                  go_wp2_with fail
                  refine hA1.out.mono ?_
                  rintro e wz ⟨rfl, rfl⟩
                  rename World => wr
                  go_wp2_with fail
                  refine hA2.out.mono ?_
                  rintro e wz ⟨rfl, rfl⟩
                  rename World => wr
                  clear hA1 hA2
                  go_wp2_with (at_builtin; first | (refine wpList_push (by rfl) _ _ 36 (by rfl) elemOk_ints (O := fun k => Old w5.heap.size k ∨ OwnB (.slice ta tn tc) k) (l := firstsL (L.take i)) (y := x) (by rfl) (by rfl) (by simp) h2.one ⟨rfl, hxi⟩ o1 hl1 ?_; intro v' w7 hown7 hc7 hk7; have h3 := h2.push1 hown7 hc7 hk7; have hc3 := h2.chg1 hc hc7; obtain ⟨qa, qn, qc, rfl⟩ := own_isSlice h3.one; obtain ⟨-, o3⟩ := h3.lt hc3.size; clear hc7 hown7 h2 hk7 o1 o2) | (refine wpList_push (by rfl) _ _ 36 (by rfl) elemOk_ints (O := fun k => Old w5.heap.size k ∨ OwnB (.slice qa qn qc) k) (l := thensL (L.take i)) (y := y) (by rfl) (by rfl) (by simp) h3.two ⟨rfl, hyi⟩ o3 hl2 ?_; intro v8 w8 hown8 hc8 hk8))
                  have h4 := h3.push2 hown8 hc8 hk8
                  have hc4 := h3.chg2 hc3 hc8
                  clear hc8 hown8 h3
                  go_wp2_with fail
                  go_roundw
                  case rel => exact ⟨i + 1, by omega, by go_num, hc4, by rw [g1.out, g2.out]; exact h4⟩
                  case measure => simp [intOf] <;> omega
            · rw [List.take_of_length_le (by omega)] at h2
              obtain ⟨_, _, q1, -, -, -⟩ := rdv_slice h2.one.rdv
              obtain ⟨_, _, q2, -, -, -⟩ := rdv_slice h2.two.rdv
              simp only [Value.slice.injEq] at q1 q2
              have l1 : fn = p.length := by rw [q1.2.1, HT1.out, List.length_map, List.length_range]
              have l2 : tn = q.length := by rw [q2.2.1]; exact HT2.out.2
              have hwf := hw5.trans hc
              subst l1 l2
              have u1 : ((p.length : Int) == (p.length : Int)) = true := by simp
              have u2 : ((q.length : Int) == (q.length : Int)) = true := by simp
              clear q1 q2 h2 x3
              go_wp2_with fail
              go_ret
              exact ⟨rfl, hwf⟩
        · rw [errV_pos hz]
          clear hz hr5
          go_wp2_with fail
          go_ret
          exact ⟨rfl, hw5⟩
  · have HW := Lib.hid (wrong_all hz)
    have HZ := Lib.hid hz
    rw [errV_pos hz]
    clear hz hr2
    have hw4 : decide ((4 : Int) < (p.length : Int)) = decide (4 < p.length) := by rw [decide_eq_decide]; omega
    have H0 : Hid (decide ((4 : Int) < (p.length : Int)) = wrongTo p 0) := by rw [Hid, hw4]; simp [wrongTo]
    clear hw4
    go_wp2_with fail
    go_loopw [10, 11] (fun bv iv wr => ∃ (i : Nat) (B : Bool), i ≤ p.length ∧ iv = .int .i64 i ∧ bv = .bool B ∧ Hid (B = wrongTo p i) ∧ Chg Never w2 wr) (fun _ iv _ => p.length - (intOf iv).toNat)
    case atStart => exact ⟨0, _, Nat.zero_le _, rfl, rfl, H0, Chg.refl _ _⟩
    case round =>
      obtain ⟨i, B, hi, rfl, rfl, hB, hc⟩ := hrel
      rename World => wr
      by_cases hlt : i < p.length
      · obtain ⟨x, hx⟩ : ∃ x, p[i]? = some x := ⟨p[i], by simp [hlt]⟩
        obtain ⟨b, off, xv, rfl, -, -, c0, hxv⟩ := elems_row a3 hx
        have hw3 := hw2.trans hc
        have c0 := hw3.cellNever c0
        have hst := wrong_step hx
        obtain ⟨qa, qc, rfl, -, -, -⟩ := rdv_slice hxv
        have hxv := hxv.never hw3
        clear a3 hx hp hp0
        go_wp2_with fail
        refine (refPatch_any x _ _ hxv).mono ?_
        rintro e w4 ⟨rfl, hc4⟩
        generalize (patchFault x).1 = at0
        by_cases fz : (patchFault x).2 = 0
        · have f1 : ((patchFault x).2 != 0) = false := by simpa using fz
          have hB2 : Hid (B = wrongTo p (i + 1)) := by rw [Hid, hst, f1, ← hB.out]; simp
          rw [fz]
          clear fz f1 hst hB c0 hxv
          cases B with
          | true =>
            go_wp2_with fail
            go_roundw
            case rel => exact ⟨i + 1, _, by omega, by go_num, rfl, hB2, hc.trans hc4⟩
            case measure => simp [intOf] <;> omega
          | false =>
            go_wp2_with fail
            go_roundw
            case rel => exact ⟨i + 1, _, by omega, by go_num, rfl, hB2, hc.trans hc4⟩
            case measure => simp [intOf] <;> omega
        · have f1 : ((patchFault x).2 != 0) = true := by simpa using fz
          have f2 : ((patchFault x).2 == 0) = false := by simpa using fz
          have hB2 : Hid (true = wrongTo p (i + 1)) := by rw [Hid, hst, f1, Bool.or_true]
          generalize (patchFault x).2 = fx at f1 f2
          clear fz hst hB c0 hxv
          cases B with
          | true =>
            go_wp2_with fail
            go_roundw
            case rel => exact ⟨i + 1, _, by omega, by go_num, rfl, hB2, hc.trans hc4⟩
            case measure => simp [intOf] <;> omega
          | false =>
            go_wp2_with fail
            go_roundw
            case rel => exact ⟨i + 1, _, by omega, by go_num, rfl, hB2, hc.trans hc4⟩
            case measure => simp [intOf] <;> omega
      · obtain rfl : i = p.length := by omega
        obtain rfl : B = true := by rw [hB.out, HW.out]
        have hw3 := hw2.trans hc
        clear hB HW H0 a3
        go_wp2_with fail
        refine (range_any p q _ _ _ (hp0.never hw3) (hq0.never hw3) m (hw3.cellNever hm)).mono ?_
        rintro e w5 ⟨r5, rfl, hc5, hr5⟩
        have hw5 := hw3.trans hc5
        by_cases hz : rangeFault p q = 0
        · obtain ⟨hL, hC⟩ := range_choice hz
          obtain ⟨hp4, hq4, -, -⟩ := range_few hz
          have HC := Lib.hid hC
          rw [hL] at hr5
          rw [hz, errV_zero]
          obtain ⟨xa, xc, rfl, x1, x2, x3⟩ := rdv_slice hr5
          unfold maxLen at x2
          have HT1 := Lib.hid (told_firsts (a := p.length) (b := q.length) (m := rangeM p q))
          have HT2 := Lib.hid (told_thens hC)
          have hLl : (rangeOut p.length q.length (rangeM p q)).length ≤ 1000 := by
            unfold rangeOut
            rw [List.length_append, List.length_map, List.length_map, List.length_range]
            have := List.length_filter_le (fun (k : Nat) => decide ((k : Int) ∈ (rangeM p q).drop p.length)) (List.range q.length)
            rw [List.length_range] at this
            omega
          have HEA := fun i x y hx => Lib.hid (told_each hC (i := i) (x := x) (y := y) hx)
          generalize rangeOut p.length q.length (rangeM p q) = L at hr5 x1 x3 HT1 HT2 HEA hLl ⊢
          clear hL hz hC hr5 hc5
          go_wp2_with fail
          go_loopw [15, 16, 17] (fun fv tv iv wr => ∃ i : Nat, i ≤ L.length ∧ iv = .int .i64 i ∧ Chg Never w5 wr ∧ TwoRows wr w5.heap.size fv tv (firstsL (L.take i)) (thensL (L.take i))) (fun _ _ iv _ => L.length - (intOf iv).toNat)
          case atStart => exact ⟨0, Nat.zero_le _, rfl, Chg.refl _ _, ⟨own_nil _ _ _, own_nil _ _ _⟩⟩
          case round =>
            obtain ⟨i, hi, rfl, hc, h2⟩ := hrel
            rename World => wr
            obtain ⟨fa, fn, fc, rfl⟩ := own_isSlice h2.one
            obtain ⟨ta, tn, tc, rfl⟩ := own_isSlice h2.two
            by_cases hlt : i < L.length
            · obtain ⟨⟨x, y⟩, hx⟩ : ∃ z, L[i]? = some z := ⟨L[i], by simp [hlt]⟩
              obtain ⟨e1, e2, e3, e4, e5⟩ := (HEA i x y hx).out
              obtain ⟨b, off, rfl, -, cx, cy⟩ := elems_pair x3 hx
              have cx := hc.cellNever cx
              have cy := hc.cellNever cy
              have f1 := Lib.hid (firstsL_take hx)
              have f2 := Lib.hid (thensL_take hx)
              have hA1 := has_any (firstsL (L.take i)) x _ wr (h2.one.rdv.sub (fun _ _ h => h.elim))
              have hA2 := has_any (thensL (L.take i)) y _ wr (h2.two.rdv.sub (fun _ _ h => h.elim))
              rw [decide_eq_false e4] at hA1
              rw [decide_eq_false e5] at hA2
              have hA1 := Lib.hid hA1
              have hA2 := Lib.hid hA2
              have ta1 : decide ((p.length : Int) ≤ x) = false := decide_eq_false (by omega)
              have tb1 : decide ((q.length : Int) ≤ y) = false := decide_eq_false (by omega)
              obtain ⟨o1, o2⟩ := h2.lt hc.size
              have hl1 : (firstsL (L.take i)).length ≤ 1000000000 := by unfold firstsL; have := List.length_filter_le (fun (x : Int) => decide (0 ≤ x)) ((L.take i).map (·.1)); rw [List.length_map, List.length_take] at this; omega
              have hl2 : (thensL (L.take i)).length ≤ 1000000000 := by unfold thensL; have := List.length_filter_le (fun (x : Int) => decide (0 ≤ x)) ((L.take i).map (·.2)); rw [List.length_map, List.length_take] at this; omega
              clear hx e4 e5 x3
              by_cases x0 : x < 0
              · have y0 : ¬ y < 0 := fun h => e1 ⟨x0, h⟩
                have t1 : decide (x < 0) = true := decide_eq_true x0
                have t2 : decide (y < 0) = false := decide_eq_false y0
                have t3 : decide (0 ≤ x) = false := decide_eq_false (by omega)
                have t4 : decide (0 ≤ y) = true := decide_eq_true (by omega)
                have g1 : Hid (firstsL (L.take (i + 1)) = firstsL (L.take i)) := by rw [Hid, f1.out, if_neg (by omega), List.append_nil]
                have g2 : Hid (thensL (L.take (i + 1)) = thensL (L.take i) ++ [y]) := by rw [Hid, f2.out, if_pos (by omega)]
                have hyi : I64 y := by unfold I64; omega
                clear e1 f1 f2
                go_wp2_with fail
                refine hA1.out.mono ?_
                rintro e wz ⟨rfl, rfl⟩
                rename World => wr
                go_wp2_with fail
                refine hA2.out.mono ?_
                rintro e wz ⟨rfl, rfl⟩
                rename World => wr
                clear hA1 hA2
                go_wp2_with (at_builtin; refine wpList_push (by rfl) _ _ 36 (by rfl) elemOk_ints (O := fun k => Old w5.heap.size k ∨ OwnB (.slice fa fn fc) k) (l := thensL (L.take i)) (y := y) (by rfl) (by rfl) (by simp) h2.two ⟨rfl, hyi⟩ o2 hl2 ?_; intro v' w7 hown7 hc7 hk7)
                have h3 := h2.push2 hown7 hc7 hk7
                have hc3 := h2.chg2 hc hc7
                clear hc7 hown7 h2
                go_wp2_with fail
                go_roundw
                case rel => exact ⟨i + 1, by omega, by go_num, hc3, by rw [g1.out, g2.out]; exact h3⟩
                case measure => simp [intOf] <;> omega
              · have t1 : decide (x < 0) = false := decide_eq_false x0
                have t3 : decide (0 ≤ x) = true := decide_eq_true (by omega)
                have g1 : Hid (firstsL (L.take (i + 1)) = firstsL (L.take i) ++ [x]) := by rw [Hid, f1.out, if_pos (by omega)]
                have hxi : I64 x := by unfold I64; omega
                by_cases y0 : y < 0
                · have t4 : decide (0 ≤ y) = false := decide_eq_false (by omega)
                  have g2 : Hid (thensL (L.take (i + 1)) = thensL (L.take i)) := by rw [Hid, f2.out, if_neg (by omega), List.append_nil]
                  clear e1 f1 f2
                  go_wp2_with fail
                  refine hA1.out.mono ?_
                  rintro e wz ⟨rfl, rfl⟩
                  rename World => wr
                  go_wp2_with fail
                  refine hA2.out.mono ?_
                  rintro e wz ⟨rfl, rfl⟩
                  rename World => wr
                  clear hA1 hA2
                  go_wp2_with (at_builtin; refine wpList_push (by rfl) _ _ 36 (by rfl) elemOk_ints (O := fun k => Old w5.heap.size k ∨ OwnB (.slice ta tn tc) k) (l := firstsL (L.take i)) (y := x) (by rfl) (by rfl) (by simp) h2.one ⟨rfl, hxi⟩ o1 hl1 ?_; intro v' w7 hown7 hc7 hk7)
                  have h3 := h2.push1 hown7 hc7 hk7
                  have hc3 := h2.chg1 hc hc7
                  clear hc7 hown7 h2
                  go_wp2_with fail
                  go_roundw
                  case rel => exact ⟨i + 1, by omega, by go_num, hc3, by rw [g1.out, g2.out]; exact h3⟩
                  case measure => simp [intOf] <;> omega
                · have t4 : decide (0 ≤ y) = true := decide_eq_true (by omega)
                  have g2 : Hid (thensL (L.take (i + 1)) = thensL (L.take i) ++ [y]) := by rw [Hid, f2.out, if_pos (by omega)]
                  have hyi : I64 y := by unfold I64; omega
                  clear e1 f1 f2
                  go_wp2_with fail
                  refine hA1.out.mono ?_
                  rintro e wz ⟨rfl, rfl⟩
                  rename World => wr
                  go_wp2_with fail
                  refine hA2.out.mono ?_
                  rintro e wz ⟨rfl, rfl⟩
                  rename World => wr
                  clear hA1 hA2
                  go_wp2_with (at_builtin; first | (refine wpList_push (by rfl) _ _ 36 (by rfl) elemOk_ints (O := fun k => Old w5.heap.size k ∨ OwnB (.slice ta tn tc) k) (l := firstsL (L.take i)) (y := x) (by rfl) (by rfl) (by simp) h2.one ⟨rfl, hxi⟩ o1 hl1 ?_; intro v' w7 hown7 hc7 hk7; have h3 := h2.push1 hown7 hc7 hk7; have hc3 := h2.chg1 hc hc7; obtain ⟨qa, qn, qc, rfl⟩ := own_isSlice h3.one; obtain ⟨-, o3⟩ := h3.lt hc3.size; clear hc7 hown7 h2 hk7 o1 o2) | (refine wpList_push (by rfl) _ _ 36 (by rfl) elemOk_ints (O := fun k => Old w5.heap.size k ∨ OwnB (.slice qa qn qc) k) (l := thensL (L.take i)) (y := y) (by rfl) (by rfl) (by simp) h3.two ⟨rfl, hyi⟩ o3 hl2 ?_; intro v8 w8 hown8 hc8 hk8))
                  have h4 := h3.push2 hown8 hc8 hk8
                  have hc4 := h3.chg2 hc3 hc8
                  clear hc8 hown8 h3
                  go_wp2_with fail
                  go_roundw
                  case rel => exact ⟨i + 1, by omega, by go_num, hc4, by rw [g1.out, g2.out]; exact h4⟩
                  case measure => simp [intOf] <;> omega
            · rw [List.take_of_length_le (by omega)] at h2
              obtain ⟨_, _, q1, -, -, -⟩ := rdv_slice h2.one.rdv
              obtain ⟨_, _, q2, -, -, -⟩ := rdv_slice h2.two.rdv
              simp only [Value.slice.injEq] at q1 q2
              have l1 : fn = p.length := by rw [q1.2.1, HT1.out, List.length_map, List.length_range]
              have l2 : tn = q.length := by rw [q2.2.1]; exact HT2.out.2
              have hwf := hw5.trans hc
              subst l1 l2
              have u1 : ((p.length : Int) == (p.length : Int)) = true := by simp
              have u2 : ((q.length : Int) == (q.length : Int)) = true := by simp
              clear q1 q2 h2 x3
              go_wp2_with fail
              go_ret
              exact ⟨rfl, hwf⟩
        · rw [errV_pos hz]
          clear hz hr5
          go_wp2_with fail
          go_ret
          exact ⟨rfl, hw5⟩
end Go.Proofs.YtgabchhplmncnaaDoor
