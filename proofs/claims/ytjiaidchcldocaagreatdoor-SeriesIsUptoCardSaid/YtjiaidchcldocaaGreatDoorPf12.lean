/-
  PARTS: THE WALK of the document's PatchFault.; THE WALK of the document's PatchOf (handstitchref2).; THE WALKS of the document's MailFault, MailText.
-/
import Derived.Test.YtjiaidchcldocaaGreatDoorPf11
import Derived.Test.YtjiaidchcldocaaGreatDoorPf3
import Derived.BigQuiet
import Derived.Deep.Cut
import Derived.Test.YtjiaidchcldocaaGreatDoorPf9
import Derived.Test.YtjiaidchcldocaaGreatDoorPf8
import Derived.Deep.QuietTactic
import Derived.Test.YtjiaidchcldocaaGreatDoorPf2
import Derived.Test.YtjiaidchcldocaaGreatDoorPf10
set_option linter.unusedVariables false
set_option linter.unusedSimpArgs false
namespace Go.Proofs.YtjiaidchcldocaaGreatDoor
open Go.RowKit

set_option maxHeartbeats 8000000 in
set_option maxRecDepth 100000 in
theorem refPatch_any (t : List Change) (v : Value) (w : World) (h : Rdv w Never v t) :
    Calls Tryz.prog 50 #[v] w fun e w' => e = .returned (.tuple #[.int .i64 (patchFault t).1, .int .i64 (patchFault t).2]) ∧ Chg Never w w' := by
  obtain ⟨a, cap, rfl, h1, h2, h3⟩ := rdv_slice h
  unfold maxLen at h2
  by_cases h8 : 16 < t.length
  · have HF : Hid (patchFault t = (0, 3)) := if_pos h8
    go_enter Tryz.func50, Tryz.ntmps50
    go_wp2_with fail
    go_ret2
    exact ⟨by rw [HF.out]; rfl, Chg.refl _ _⟩
  · have HF : Hid (patchFault t = patchGo 0 (prevC t 0) (t.drop 0)) := if_neg h8
    go_enter Tryz.func50, Tryz.ntmps50
    go_wp2_with fail
    go_loopw [4] (fun i wr => ∃ k : Nat, k ≤ t.length ∧ i = .int .i64 k ∧ Chg Never w wr ∧ Hid (patchFault t = patchGo k (prevC t k) (t.drop k))) (fun i _ => t.length - (intOf i).toNat)
    case atStart => exact ⟨0, Nat.zero_le _, rfl, Chg.refl _ _, HF.out⟩
    case round =>
      clear HF
      rename World => wr
      obtain ⟨k, hk, rfl, hc, hG⟩ := hrel
      by_cases hlt : k < t.length
      · obtain ⟨x, hx⟩ : ∃ x, t[k]? = some x := ⟨t[k], by simp [hlt]⟩
        obtain ⟨wh, pt, hs⟩ := x
        obtain ⟨b, off, lv, hbo, _, _, c0, c1, c2, hps, hlv⟩ := elems_change h3 hx
        subst hbo
        simp only at c0 c1 c2 hps hlv
        obtain ⟨la, lcap, rfl, _, _, hlh⟩ := rdv_slice hlv
        have c0 := hc.cellNever c0
        have c1 := hc.cellNever c1
        have c2 := hc.cellNever c2
        have HD := Lib.hid (drop_eq hx)
        have HPV := Lib.hid (prevC_succ hx)
        simp only at HPV
        obtain ⟨hA, d0, d1, d2⟩ := box1_change wr 85 wh pt (.slice la hs.length lcap) _ rfl
        clear hx
        by_cases r : wh < 1 ∨ 3 < wh
        · have HE : Hid (patchFault t = (k, 1)) := by rw [Hid, hG.out, patchGo_bad HD.out (by rw [cf_rng (c := ⟨wh, pt, hs⟩) r]; decide), cf_rng (c := ⟨wh, pt, hs⟩) r]
          clear hG
          rcases r with r | r
          · go_wp2_with fail
            go_ret2
            exact ⟨by rw [HE.out]; rfl, hc.trans hA⟩
          · have r0 : ¬ wh < 1 := by omega
            go_wp2_with fail
            go_ret2
            exact ⟨by rw [HE.out]; rfl, hc.trans hA⟩
        · have r0 : ¬ wh < 1 := by omega
          have r1 : ¬ 3 < wh := by omega
          by_cases z : pathFault pt = 0
          · have P0 := Lib.hid z
            by_cases y : (hunksFault hs).2 = 0
            · have H0 := Lib.hid y
              have HCF : Hid ((shapeB ⟨wh, pt, hs⟩ = true → changeFault ⟨wh, pt, hs⟩ = 0) ∧ (shapeB ⟨wh, pt, hs⟩ = false → changeFault ⟨wh, pt, hs⟩ = 2)) := ⟨fun s => cf_ok r z y s, fun s => cf_shape r z y s⟩
              clear r z y
              go_wp2_with fail
              generalize wr.alloc (.cells #[.int .i64 wh, .string pt, .slice la hs.length lcap] 85) = w3 at hA d0 d1 d2 ⊢
              have hc3 := hc.trans hA
              clear hA c0 c1 c2
              refine (refPath_any pt _).mono ?_
              rintro e w4 ⟨rfl, hc4⟩
              have d0 := hc4.cellNever d0
              have d1 := hc4.cellNever d1
              have d2 := hc4.cellNever d2
              have hcD := hc3.trans hc4
              clear hc3 hc4
              rw [P0.out]
              go_wp2_with fail
              refine (refHunks_any hs _ _ (hlv.never hcD)).mono ?_
              rintro e w5 ⟨rfl, hc5⟩
              have d0 := hc5.cellNever d0
              have d1 := hc5.cellNever d1
              have d2 := hc5.cellNever d2
              have hcD := hcD.trans hc5
              clear hc5
              rw [H0.out]
              rcases Nat.eq_zero_or_pos k with h0 | h0
              · subst h0
                have HO : Hid ((prevC t 0).any (fun p => leqB pt p) = false) := rfl
                by_cases k1 : wh = 1
                · subst k1
                  by_cases hs0 : hs = []
                  · subst hs0
                    have hsh : shapeB ⟨1, pt, []⟩ = false := shape_edit0 rfl rfl
                    have HE : Hid (patchFault t = (0, 2)) := by rw [Hid, hG.out]; exact pg_bad HD.out (.inr (HCF.out.2 hsh)) (.inl hsh) HCF.out.2
                    clear hG hsh
                    go_wp2_with fail
                    go_quiet (fail)
                    go_wp2_with fail
                    go_ret2
                    exact ⟨by rw [HE.out]; rfl, hcD.drewN _⟩
                  · have t0 : ((hs.length : Int) == 0) = false := beq_eq_false_iff_ne.2 (by have := List.length_pos_iff.2 hs0; omega)
                    have hsh : shapeB ⟨1, pt, hs⟩ = true := shape_edit rfl hs0
                    have HNX : Hid (patchFault t = patchGo (0 + 1) (prevC t (0 + 1)) (t.drop (0 + 1))) := by rw [Hid, HPV.out, hG.out]; exact patchGo_next HD.out (HCF.out.1 hsh) HO.out
                    clear hs0 hG hsh
                    go_wp2_with fail
                    go_quiet (fail)
                    generalize hqq : World.drewN w5 _ = w6
                    have hq : Chg Never w5 w6 := hqq ▸ (Chg.refl Never w5).drewN _
                    clear hqq
                    have hcE := hcD.trans hq
                    have d0 := hq.cellNever d0
                    have d1 := hq.cellNever d1
                    have d2 := hq.cellNever d2
                    clear hq hcD
                    go_wp2_with fail
                    go_roundw
                    case rel => exact ⟨0 + 1, by omega, by go_num, hcE, HNX.out⟩
                    case measure => simp [intOf] <;> omega
                · have t1 : (wh == 1) = false := by simp [k1]
                  have t1' : (wh != 1) = true := by simp [k1]
                  have k23 : wh = 2 ∨ wh = 3 := by omega
                  by_cases gm : (1 : Int) < hs.length
                  · have gm' := decide_eq_true gm
                    have hsh : shapeB ⟨wh, pt, hs⟩ = false := shape_many k23 (by show 2 ≤ hs.length; omega)
                    have HE : Hid (patchFault t = (0, 2)) := by rw [Hid, hG.out]; exact pg_bad HD.out (.inr (HCF.out.2 hsh)) (.inl hsh) HCF.out.2
                    clear hG hsh k1 k23
                    go_wp2_with fail
                    go_quiet (fail)
                    go_wp2_with fail
                    go_ret2
                    exact ⟨by rw [HE.out]; rfl, hcD.drewN _⟩
                  · have gm' := decide_eq_false gm
                    by_cases hs0 : hs = []
                    · subst hs0
                      have hsh : shapeB ⟨wh, pt, []⟩ = true := shape_none k23 rfl
                      have HNX : Hid (patchFault t = patchGo (0 + 1) (prevC t (0 + 1)) (t.drop (0 + 1))) := by rw [Hid, HPV.out, hG.out]; exact patchGo_next HD.out (HCF.out.1 hsh) HO.out
                      clear hG hsh k1 k23 gm gm'
                      go_wp2_with fail
                      go_quiet (fail)
                      generalize hqq : World.drewN w5 _ = w6
                      have hq : Chg Never w5 w6 := hqq ▸ (Chg.refl Never w5).drewN _
                      clear hqq
                      have hcE := hcD.trans hq
                      have d0 := hq.cellNever d0
                      have d1 := hq.cellNever d1
                      have d2 := hq.cellNever d2
                      clear hq hcD
                      go_wp2_with fail
                      go_roundw
                      case rel => exact ⟨0 + 1, by omega, by go_num, hcE, HNX.out⟩
                      case measure => simp [intOf] <;> omega
                    · obtain ⟨x, rfl⟩ : ∃ x, hs = [x] := by
                        match hs, hs0, gm with
                        | [x], _, _ => exact ⟨x, rfl⟩
                        | a :: b :: r, _, gm => exact absurd (by simp; omega) gm
                      clear gm gm' hs0
                      obtain ⟨ov, nv, mk⟩ := x
                      have HMK : Hid (scriptFault mk = 0) := hOk_mem _ _ _ (hunksFault_zero H0.out).2 ⟨ov, nv, mk⟩ (List.mem_singleton.2 rfl)
                      go_wp2_with fail
                      go_quiet (fail)
                      generalize hqq : World.drewN w5 _ = w6
                      have hq : Chg Never w5 w6 := hqq ▸ (Chg.refl Never w5).drewN _
                      clear hqq
                      have hcE := hcD.trans hq
                      have d0 := hq.cellNever d0
                      have d1 := hq.cellNever d1
                      have d2 := hq.cellNever d2
                      clear hq hcD
                      obtain ⟨xb, xo, xv, hxa, _, _, x0, x1, x2, hmv⟩ := elems_hunk hlh (i := 0) rfl
                      subst hxa
                      simp only [Nat.zero_mul, Nat.add_zero] at x0 x1 x2 hmv
                      have x0 := hcE.cellNever x0
                      have x1 := hcE.cellNever x1
                      have x2 := hcE.cellNever x2
                      obtain ⟨xa, xc, rfl, _, _, _⟩ := rdv_slice hmv
                      by_cases o : ov = 0
                      · subst o
                        have hBx := Blk3.new w6 129 (.int .i64 0) (.int .i64 nv) (.slice xa mk.length xc)
                        have hAx : Chg Never w6 (w6.alloc (.cells #[.int .i64 0, .int .i64 nv, .slice xa mk.length xc] 129)) := (Chg.refl Never w6).alloc _
                        rcases k23 with k2 | k3
                        · subst k2
                          clear t1 t1' k1
                          go_upto_region 18 with fail
                          generalize w6.alloc (.cells #[.int .i64 0, .int .i64 nv, .slice xa mk.length xc] 129) = w7 at hBx hAx ⊢
                          clear x0 x1 x2
                          obtain ⟨x0, _, x2⟩ := hBx.cell
                          have d0 := hAx.cellNever d0
                          go_wp2_with fail
                          refine (refOld_any mk _ _ (hmv.never (hcE.trans hAx)) HMK.out).mono ?_
                          rintro e w8 ⟨r8, rfl, hc8, hr8⟩
                          obtain ⟨ra, rc, rfl, _, _, _⟩ := rdv_slice hr8
                          have hcE := (hcE.trans hAx).trans hc8
                          have d0 := hc8.cellNever d0
                          have x0 := hc8.cellNever x0
                          have x2 := hc8.cellNever x2
                          clear hr8 hc8 hAx d1 d2
                          by_cases n0 : (those mk 43).length = 0
                          · have hsh : shapeB ⟨2, pt, [⟨0, nv, mk⟩]⟩ = true := by
                              rw [shape_one (c := ⟨2, pt, [⟨0, nv, mk⟩]⟩) (.inl rfl) rfl H0.out, decide_eq_true (show (⟨0, nv, mk⟩ : Hunk).old = 0 from rfl)]
                              exact decide_eq_true n0
                            have HNX : Hid (patchFault t = patchGo (0 + 1) (prevC t (0 + 1)) (t.drop (0 + 1))) := by rw [Hid, HPV.out, hG.out]; exact patchGo_next HD.out (HCF.out.1 hsh) HO.out
                            have n0' : ¬ (0 : Int) < (those mk 43).length := by omega
                            have n0'' := decide_eq_false n0'
                            have n0n : ¬ 0 < (those mk 43).length := by omega
                            clear hG hsh n0
                            go_wp2_with fail
                            go_roundw
                            case rel => exact ⟨0 + 1, by omega, by go_num, hcE, HNX.out⟩
                            case measure => simp [intOf] <;> omega
                          · have hsh : shapeB ⟨2, pt, [⟨0, nv, mk⟩]⟩ = false := by
                              rw [shape_one (c := ⟨2, pt, [⟨0, nv, mk⟩]⟩) (.inl rfl) rfl H0.out, decide_eq_true (show (⟨0, nv, mk⟩ : Hunk).old = 0 from rfl)]
                              exact decide_eq_false n0
                            have HE : Hid (patchFault t = (0, 2)) := by rw [Hid, hG.out]; exact pg_bad HD.out (.inr (HCF.out.2 hsh)) (.inl hsh) HCF.out.2
                            have n0' : (0 : Int) < (those mk 43).length := by omega
                            have n0'' := decide_eq_true n0'
                            have n0n : 0 < (those mk 43).length := by omega
                            clear hG hsh n0
                            go_wp2_with fail
                            go_ret2
                            exact ⟨by rw [HE.out]; rfl, hcE⟩
                        · subst k3
                          clear t1 t1' k1
                          go_upto_region 18 with fail
                          generalize w6.alloc (.cells #[.int .i64 0, .int .i64 nv, .slice xa mk.length xc] 129) = w7 at hBx hAx ⊢
                          clear x0 x1 x2
                          obtain ⟨x0, _, x2⟩ := hBx.cell
                          have d0 := hAx.cellNever d0
                          go_wp2_with fail
                          refine (refNew_any mk _ _ (hmv.never (hcE.trans hAx)) HMK.out).mono ?_
                          rintro e w8 ⟨r8, rfl, hc8, hr8⟩
                          obtain ⟨ra, rc, rfl, _, _, _⟩ := rdv_slice hr8
                          have hcE := (hcE.trans hAx).trans hc8
                          have d0 := hc8.cellNever d0
                          have x0 := hc8.cellNever x0
                          have x2 := hc8.cellNever x2
                          clear hr8 hc8 hAx d1 d2
                          by_cases n0 : (those mk 45).length = 0
                          · have hsh : shapeB ⟨3, pt, [⟨0, nv, mk⟩]⟩ = true := by
                              rw [shape_one (c := ⟨3, pt, [⟨0, nv, mk⟩]⟩) (.inr rfl) rfl H0.out, decide_eq_true (show (⟨0, nv, mk⟩ : Hunk).old = 0 from rfl)]
                              exact decide_eq_true n0
                            have HNX : Hid (patchFault t = patchGo (0 + 1) (prevC t (0 + 1)) (t.drop (0 + 1))) := by rw [Hid, HPV.out, hG.out]; exact patchGo_next HD.out (HCF.out.1 hsh) HO.out
                            have n0' : ¬ (0 : Int) < (those mk 45).length := by omega
                            have n0'' := decide_eq_false n0'
                            have n0n : ¬ 0 < (those mk 45).length := by omega
                            clear hG hsh n0
                            go_wp2_with fail
                            go_roundw
                            case rel => exact ⟨0 + 1, by omega, by go_num, hcE, HNX.out⟩
                            case measure => simp [intOf] <;> omega
                          · have hsh : shapeB ⟨3, pt, [⟨0, nv, mk⟩]⟩ = false := by
                              rw [shape_one (c := ⟨3, pt, [⟨0, nv, mk⟩]⟩) (.inr rfl) rfl H0.out, decide_eq_true (show (⟨0, nv, mk⟩ : Hunk).old = 0 from rfl)]
                              exact decide_eq_false n0
                            have HE : Hid (patchFault t = (0, 2)) := by rw [Hid, hG.out]; exact pg_bad HD.out (.inr (HCF.out.2 hsh)) (.inl hsh) HCF.out.2
                            have n0' : (0 : Int) < (those mk 45).length := by omega
                            have n0'' := decide_eq_true n0'
                            have n0n : 0 < (those mk 45).length := by omega
                            clear hG hsh n0
                            go_wp2_with fail
                            go_ret2
                            exact ⟨by rw [HE.out]; rfl, hcE⟩
                      · have o0 : (ov == 0) = false := by simp [o]
                        have hBx := Blk3.new w6 129 (.int .i64 ov) (.int .i64 nv) (.slice xa mk.length xc)
                        have hAx : Chg Never w6 (w6.alloc (.cells #[.int .i64 ov, .int .i64 nv, .slice xa mk.length xc] 129)) := (Chg.refl Never w6).alloc _
                        have o1 : (ov != 0) = true := by simp [o]
                        have hsh : shapeB ⟨wh, pt, [⟨ov, nv, mk⟩]⟩ = false := by rw [shape_one (c := ⟨wh, pt, [⟨ov, nv, mk⟩]⟩) k23 rfl H0.out, decide_eq_false o]; rfl
                        have HE : Hid (patchFault t = (0, 2)) := by rw [Hid, hG.out]; exact pg_bad HD.out (.inr (HCF.out.2 hsh)) (.inl hsh) HCF.out.2
                        clear hG hsh k1 k23 o
                        go_wp2_with fail
                        go_ret2
                        exact ⟨by rw [HE.out]; rfl, hcE.trans hAx⟩
              · obtain ⟨k', rfl⟩ : ∃ k', k = k' + 1 := ⟨k - 1, by omega⟩
                obtain ⟨y, hy⟩ : ∃ y, t[k']? = some y := ⟨t[k']'(by omega), by simp [show k' < t.length by omega]⟩
                obtain ⟨b', off', lv', hbo, _, _, _, y0, _, _, _⟩ := elems_change h3 hy
                simp only [Option.some.injEq, Addr.mk.injEq, and_true] at hbo
                obtain ⟨rfl, rfl⟩ := hbo
                have y0 := hcD.cellNever y0
                have HPY : Hid (prevC t (k' + 1) = some y.path) := prevC_succ hy
                have z1 : (k' : Int) + 1 - 1 = k' := by omega
                have z2 : decide ((0 : Int) < (k' : Int) + 1) = true := decide_eq_true (by omega)
                clear hy
                rcases less_tri pt y.path with g | g | g
                · have HO : Hid ((prevC t (k' + 1)).any (fun p => leqB pt p) = true) := by rw [Hid, HPY.out]; exact leqB_true.2 (less_asymm g)
                  have a1 : Op.bytesLess pt.toList y.path.toList = true := g
                  clear g
                  have HE : Hid (patchFault t = (k' + 1, 2)) := by
                    rw [Hid, hG.out]
                    refine pg_bad HD.out ?_ (.inr HO.out) HCF.out.2
                    cases hsb : shapeB ⟨wh, pt, hs⟩ with
                    | true => exact .inl (HCF.out.1 hsb)
                    | false => exact .inr (HCF.out.2 hsb)
                  clear hG
                  by_cases k1 : wh = 1
                  · subst k1
                    by_cases hs0 : hs = []
                    · subst hs0
                      go_wp2_with fail
                      go_quiet (fail)
                      go_wp2_with fail
                      go_ret2
                      exact ⟨by rw [HE.out]; rfl, hcD.drewN _⟩
                    · have t0 : ((hs.length : Int) == 0) = false := beq_eq_false_iff_ne.2 (by have := List.length_pos_iff.2 hs0; omega)
                      clear hs0
                      go_wp2_with fail
                      go_quiet (fail)
                      go_wp2_with fail
                      go_ret2
                      exact ⟨by rw [HE.out]; rfl, hcD.drewN _⟩
                  · have t1 : (wh == 1) = false := by simp [k1]
                    have t1' : (wh != 1) = true := by simp [k1]
                    clear k1
                    by_cases gm : (1 : Int) < hs.length
                    · have gm' := decide_eq_true gm
                      go_wp2_with fail
                      go_quiet (fail)
                      go_wp2_with fail
                      go_ret2
                      exact ⟨by rw [HE.out]; rfl, hcD.drewN _⟩
                    · have gm' := decide_eq_false gm
                      go_wp2_with fail
                      go_quiet (fail)
                      go_wp2_with fail
                      go_ret2
                      exact ⟨by rw [HE.out]; rfl, hcD.drewN _⟩
                · have HO : Hid ((prevC t (k' + 1)).any (fun p => leqB pt p) = true) := by rw [Hid, HPY.out]; exact leqB_true.2 (by rw [g]; exact less_irrefl _)
                  have a1 : Op.bytesLess pt.toList y.path.toList = false := by rw [g]; exact bl_irrefl _
                  have a2 : (pt.toList == y.path.toList) = true := by rw [g]; exact beq_self_eq_true _
                  clear g
                  have HE : Hid (patchFault t = (k' + 1, 2)) := by
                    rw [Hid, hG.out]
                    refine pg_bad HD.out ?_ (.inr HO.out) HCF.out.2
                    cases hsb : shapeB ⟨wh, pt, hs⟩ with
                    | true => exact .inl (HCF.out.1 hsb)
                    | false => exact .inr (HCF.out.2 hsb)
                  clear hG
                  by_cases k1 : wh = 1
                  · subst k1
                    by_cases hs0 : hs = []
                    · subst hs0
                      go_wp2_with fail
                      go_quiet (fail)
                      go_wp2_with fail
                      go_ret2
                      exact ⟨by rw [HE.out]; rfl, hcD.drewN _⟩
                    · have t0 : ((hs.length : Int) == 0) = false := beq_eq_false_iff_ne.2 (by have := List.length_pos_iff.2 hs0; omega)
                      clear hs0
                      go_wp2_with fail
                      go_quiet (fail)
                      go_wp2_with fail
                      go_ret2
                      exact ⟨by rw [HE.out]; rfl, hcD.drewN _⟩
                  · have t1 : (wh == 1) = false := by simp [k1]
                    have t1' : (wh != 1) = true := by simp [k1]
                    clear k1
                    by_cases gm : (1 : Int) < hs.length
                    · have gm' := decide_eq_true gm
                      go_wp2_with fail
                      go_quiet (fail)
                      go_wp2_with fail
                      go_ret2
                      exact ⟨by rw [HE.out]; rfl, hcD.drewN _⟩
                    · have gm' := decide_eq_false gm
                      go_wp2_with fail
                      go_quiet (fail)
                      go_wp2_with fail
                      go_ret2
                      exact ⟨by rw [HE.out]; rfl, hcD.drewN _⟩
                · have HO : Hid ((prevC t (k' + 1)).any (fun p => leqB pt p) = false) := by
                    rw [Hid, HPY.out, Option.any_some, Bool.eq_false_iff]
                    intro e
                    rw [leqB_true.1 e] at g; cases g
                  have a1 : Op.bytesLess pt.toList y.path.toList = false := less_asymm g
                  have a2 := str_beq_false (less_ne g).symm
                  clear g
                  by_cases k1 : wh = 1
                  · subst k1
                    by_cases hs0 : hs = []
                    · subst hs0
                      have hsh : shapeB ⟨1, pt, []⟩ = false := shape_edit0 rfl rfl
                      have HE : Hid (patchFault t = (k' + 1, 2)) := by rw [Hid, hG.out]; exact pg_bad HD.out (.inr (HCF.out.2 hsh)) (.inl hsh) HCF.out.2
                      clear hG hsh
                      go_wp2_with fail
                      go_quiet (fail)
                      go_wp2_with fail
                      go_ret2
                      exact ⟨by rw [HE.out]; rfl, hcD.drewN _⟩
                    · have t0 : ((hs.length : Int) == 0) = false := beq_eq_false_iff_ne.2 (by have := List.length_pos_iff.2 hs0; omega)
                      have hsh : shapeB ⟨1, pt, hs⟩ = true := shape_edit rfl hs0
                      have HNX : Hid (patchFault t = patchGo (k' + 1 + 1) (prevC t (k' + 1 + 1)) (t.drop (k' + 1 + 1))) := by rw [Hid, HPV.out, hG.out]; exact patchGo_next HD.out (HCF.out.1 hsh) HO.out
                      clear hs0 hG hsh
                      go_wp2_with fail
                      go_quiet (fail)
                      generalize hqq : World.drewN w5 _ = w6
                      have hq : Chg Never w5 w6 := hqq ▸ (Chg.refl Never w5).drewN _
                      clear hqq
                      have hcE := hcD.trans hq
                      have d0 := hq.cellNever d0
                      have d1 := hq.cellNever d1
                      have d2 := hq.cellNever d2
                      clear hq hcD
                      go_wp2_with fail
                      go_roundw
                      case rel => exact ⟨k' + 1 + 1, by omega, by go_num, hcE, HNX.out⟩
                      case measure => simp [intOf] <;> omega
                  · have t1 : (wh == 1) = false := by simp [k1]
                    have t1' : (wh != 1) = true := by simp [k1]
                    have k23 : wh = 2 ∨ wh = 3 := by omega
                    by_cases gm : (1 : Int) < hs.length
                    · have gm' := decide_eq_true gm
                      have hsh : shapeB ⟨wh, pt, hs⟩ = false := shape_many k23 (by show 2 ≤ hs.length; omega)
                      have HE : Hid (patchFault t = (k' + 1, 2)) := by rw [Hid, hG.out]; exact pg_bad HD.out (.inr (HCF.out.2 hsh)) (.inl hsh) HCF.out.2
                      clear hG hsh k1 k23
                      go_wp2_with fail
                      go_quiet (fail)
                      go_wp2_with fail
                      go_ret2
                      exact ⟨by rw [HE.out]; rfl, hcD.drewN _⟩
                    · have gm' := decide_eq_false gm
                      by_cases hs0 : hs = []
                      · subst hs0
                        have hsh : shapeB ⟨wh, pt, []⟩ = true := shape_none k23 rfl
                        have HNX : Hid (patchFault t = patchGo (k' + 1 + 1) (prevC t (k' + 1 + 1)) (t.drop (k' + 1 + 1))) := by rw [Hid, HPV.out, hG.out]; exact patchGo_next HD.out (HCF.out.1 hsh) HO.out
                        clear hG hsh k1 k23 gm gm'
                        go_wp2_with fail
                        go_quiet (fail)
                        generalize hqq : World.drewN w5 _ = w6
                        have hq : Chg Never w5 w6 := hqq ▸ (Chg.refl Never w5).drewN _
                        clear hqq
                        have hcE := hcD.trans hq
                        have d0 := hq.cellNever d0
                        have d1 := hq.cellNever d1
                        have d2 := hq.cellNever d2
                        clear hq hcD
                        go_wp2_with fail
                        go_roundw
                        case rel => exact ⟨k' + 1 + 1, by omega, by go_num, hcE, HNX.out⟩
                        case measure => simp [intOf] <;> omega
                      · obtain ⟨x, rfl⟩ : ∃ x, hs = [x] := by
                          match hs, hs0, gm with
                          | [x], _, _ => exact ⟨x, rfl⟩
                          | a :: b :: r, _, gm => exact absurd (by simp; omega) gm
                        clear gm gm' hs0
                        obtain ⟨ov, nv, mk⟩ := x
                        have HMK : Hid (scriptFault mk = 0) := hOk_mem _ _ _ (hunksFault_zero H0.out).2 ⟨ov, nv, mk⟩ (List.mem_singleton.2 rfl)
                        go_wp2_with fail
                        go_quiet (fail)
                        generalize hqq : World.drewN w5 _ = w6
                        have hq : Chg Never w5 w6 := hqq ▸ (Chg.refl Never w5).drewN _
                        clear hqq
                        have hcE := hcD.trans hq
                        have d0 := hq.cellNever d0
                        have d1 := hq.cellNever d1
                        have d2 := hq.cellNever d2
                        clear hq hcD
                        obtain ⟨xb, xo, xv, hxa, _, _, x0, x1, x2, hmv⟩ := elems_hunk hlh (i := 0) rfl
                        subst hxa
                        simp only [Nat.zero_mul, Nat.add_zero] at x0 x1 x2 hmv
                        have x0 := hcE.cellNever x0
                        have x1 := hcE.cellNever x1
                        have x2 := hcE.cellNever x2
                        obtain ⟨xa, xc, rfl, _, _, _⟩ := rdv_slice hmv
                        by_cases o : ov = 0
                        · subst o
                          have hBx := Blk3.new w6 129 (.int .i64 0) (.int .i64 nv) (.slice xa mk.length xc)
                          have hAx : Chg Never w6 (w6.alloc (.cells #[.int .i64 0, .int .i64 nv, .slice xa mk.length xc] 129)) := (Chg.refl Never w6).alloc _
                          rcases k23 with k2 | k3
                          · subst k2
                            clear t1 t1' k1
                            go_upto_region 18 with fail
                            generalize w6.alloc (.cells #[.int .i64 0, .int .i64 nv, .slice xa mk.length xc] 129) = w7 at hBx hAx ⊢
                            clear x0 x1 x2
                            obtain ⟨x0, _, x2⟩ := hBx.cell
                            have d0 := hAx.cellNever d0
                            go_wp2_with fail
                            refine (refOld_any mk _ _ (hmv.never (hcE.trans hAx)) HMK.out).mono ?_
                            rintro e w8 ⟨r8, rfl, hc8, hr8⟩
                            obtain ⟨ra, rc, rfl, _, _, _⟩ := rdv_slice hr8
                            have hcE := (hcE.trans hAx).trans hc8
                            have d0 := hc8.cellNever d0
                            have x0 := hc8.cellNever x0
                            have x2 := hc8.cellNever x2
                            clear hr8 hc8 hAx d1 d2
                            by_cases n0 : (those mk 43).length = 0
                            · have hsh : shapeB ⟨2, pt, [⟨0, nv, mk⟩]⟩ = true := by
                                rw [shape_one (c := ⟨2, pt, [⟨0, nv, mk⟩]⟩) (.inl rfl) rfl H0.out, decide_eq_true (show (⟨0, nv, mk⟩ : Hunk).old = 0 from rfl)]
                                exact decide_eq_true n0
                              have HNX : Hid (patchFault t = patchGo (k' + 1 + 1) (prevC t (k' + 1 + 1)) (t.drop (k' + 1 + 1))) := by rw [Hid, HPV.out, hG.out]; exact patchGo_next HD.out (HCF.out.1 hsh) HO.out
                              have n0' : ¬ (0 : Int) < (those mk 43).length := by omega
                              have n0'' := decide_eq_false n0'
                              have n0n : ¬ 0 < (those mk 43).length := by omega
                              clear hG hsh n0
                              go_wp2_with fail
                              go_roundw
                              case rel => exact ⟨k' + 1 + 1, by omega, by go_num, hcE, HNX.out⟩
                              case measure => simp [intOf] <;> omega
                            · have hsh : shapeB ⟨2, pt, [⟨0, nv, mk⟩]⟩ = false := by
                                rw [shape_one (c := ⟨2, pt, [⟨0, nv, mk⟩]⟩) (.inl rfl) rfl H0.out, decide_eq_true (show (⟨0, nv, mk⟩ : Hunk).old = 0 from rfl)]
                                exact decide_eq_false n0
                              have HE : Hid (patchFault t = (k' + 1, 2)) := by rw [Hid, hG.out]; exact pg_bad HD.out (.inr (HCF.out.2 hsh)) (.inl hsh) HCF.out.2
                              have n0' : (0 : Int) < (those mk 43).length := by omega
                              have n0'' := decide_eq_true n0'
                              have n0n : 0 < (those mk 43).length := by omega
                              clear hG hsh n0
                              go_wp2_with fail
                              go_ret2
                              exact ⟨by rw [HE.out]; rfl, hcE⟩
                          · subst k3
                            clear t1 t1' k1
                            go_upto_region 18 with fail
                            generalize w6.alloc (.cells #[.int .i64 0, .int .i64 nv, .slice xa mk.length xc] 129) = w7 at hBx hAx ⊢
                            clear x0 x1 x2
                            obtain ⟨x0, _, x2⟩ := hBx.cell
                            have d0 := hAx.cellNever d0
                            go_wp2_with fail
                            refine (refNew_any mk _ _ (hmv.never (hcE.trans hAx)) HMK.out).mono ?_
                            rintro e w8 ⟨r8, rfl, hc8, hr8⟩
                            obtain ⟨ra, rc, rfl, _, _, _⟩ := rdv_slice hr8
                            have hcE := (hcE.trans hAx).trans hc8
                            have d0 := hc8.cellNever d0
                            have x0 := hc8.cellNever x0
                            have x2 := hc8.cellNever x2
                            clear hr8 hc8 hAx d1 d2
                            by_cases n0 : (those mk 45).length = 0
                            · have hsh : shapeB ⟨3, pt, [⟨0, nv, mk⟩]⟩ = true := by
                                rw [shape_one (c := ⟨3, pt, [⟨0, nv, mk⟩]⟩) (.inr rfl) rfl H0.out, decide_eq_true (show (⟨0, nv, mk⟩ : Hunk).old = 0 from rfl)]
                                exact decide_eq_true n0
                              have HNX : Hid (patchFault t = patchGo (k' + 1 + 1) (prevC t (k' + 1 + 1)) (t.drop (k' + 1 + 1))) := by rw [Hid, HPV.out, hG.out]; exact patchGo_next HD.out (HCF.out.1 hsh) HO.out
                              have n0' : ¬ (0 : Int) < (those mk 45).length := by omega
                              have n0'' := decide_eq_false n0'
                              have n0n : ¬ 0 < (those mk 45).length := by omega
                              clear hG hsh n0
                              go_wp2_with fail
                              go_roundw
                              case rel => exact ⟨k' + 1 + 1, by omega, by go_num, hcE, HNX.out⟩
                              case measure => simp [intOf] <;> omega
                            · have hsh : shapeB ⟨3, pt, [⟨0, nv, mk⟩]⟩ = false := by
                                rw [shape_one (c := ⟨3, pt, [⟨0, nv, mk⟩]⟩) (.inr rfl) rfl H0.out, decide_eq_true (show (⟨0, nv, mk⟩ : Hunk).old = 0 from rfl)]
                                exact decide_eq_false n0
                              have HE : Hid (patchFault t = (k' + 1, 2)) := by rw [Hid, hG.out]; exact pg_bad HD.out (.inr (HCF.out.2 hsh)) (.inl hsh) HCF.out.2
                              have n0' : (0 : Int) < (those mk 45).length := by omega
                              have n0'' := decide_eq_true n0'
                              have n0n : 0 < (those mk 45).length := by omega
                              clear hG hsh n0
                              go_wp2_with fail
                              go_ret2
                              exact ⟨by rw [HE.out]; rfl, hcE⟩
                        · have o0 : (ov == 0) = false := by simp [o]
                          have hBx := Blk3.new w6 129 (.int .i64 ov) (.int .i64 nv) (.slice xa mk.length xc)
                          have hAx : Chg Never w6 (w6.alloc (.cells #[.int .i64 ov, .int .i64 nv, .slice xa mk.length xc] 129)) := (Chg.refl Never w6).alloc _
                          have o1 : (ov != 0) = true := by simp [o]
                          have hsh : shapeB ⟨wh, pt, [⟨ov, nv, mk⟩]⟩ = false := by rw [shape_one (c := ⟨wh, pt, [⟨ov, nv, mk⟩]⟩) k23 rfl H0.out, decide_eq_false o]; rfl
                          have HE : Hid (patchFault t = (k' + 1, 2)) := by rw [Hid, hG.out]; exact pg_bad HD.out (.inr (HCF.out.2 hsh)) (.inl hsh) HCF.out.2
                          clear hG hsh k1 k23 o
                          go_wp2_with fail
                          go_ret2
                          exact ⟨by rw [HE.out]; rfl, hcE.trans hAx⟩
            · have HE : Hid (patchFault t = (k, (hunksFault hs).2)) := by rw [Hid, hG.out, patchGo_bad HD.out (by rw [cf_hunks (c := ⟨wh, pt, hs⟩) r z y]; exact y), cf_hunks (c := ⟨wh, pt, hs⟩) r z y]
              have y0 : ((hunksFault hs).2 == 0) = false := by simp [y]
              have y1 : ((hunksFault hs).2 != 0) = true := by simp [y]
              clear r z y hG
              go_wp2_with fail
              generalize wr.alloc (.cells #[.int .i64 wh, .string pt, .slice la hs.length lcap] 85) = w3 at hA d0 d1 d2 ⊢
              have hc3 := hc.trans hA
              clear hA c0 c1 c2
              refine (refPath_any pt _).mono ?_
              rintro e w4 ⟨rfl, hc4⟩
              have d0 := hc4.cellNever d0
              have d1 := hc4.cellNever d1
              have d2 := hc4.cellNever d2
              have hcD := hc3.trans hc4
              clear hc3 hc4
              rw [P0.out]
              go_wp2_with fail
              refine (refHunks_any hs _ _ (hlv.never hcD)).mono ?_
              rintro e w5 ⟨rfl, hc5⟩
              have d0 := hc5.cellNever d0
              have d1 := hc5.cellNever d1
              have d2 := hc5.cellNever d2
              have hcD := hcD.trans hc5
              clear hc5
              go_wp2_with fail
              go_ret2
              exact ⟨by rw [HE.out]; rfl, hcD⟩
          · have HE : Hid (patchFault t = (k, pathFault pt)) := by rw [Hid, hG.out, patchGo_bad HD.out (by rw [cf_path (c := ⟨wh, pt, hs⟩) r z]; exact z), cf_path (c := ⟨wh, pt, hs⟩) r z]
            have z0 : (pathFault pt == 0) = false := by simp [z]
            have z1 : (pathFault pt != 0) = true := by simp [z]
            clear r z hG
            go_wp2_with fail
            generalize wr.alloc (.cells #[.int .i64 wh, .string pt, .slice la hs.length lcap] 85) = w3 at hA d0 d1 d2 ⊢
            have hc3 := hc.trans hA
            clear hA c0 c1 c2
            refine (refPath_any pt _).mono ?_
            rintro e w4 ⟨rfl, hc4⟩
            have d0 := hc4.cellNever d0
            have d1 := hc4.cellNever d1
            have d2 := hc4.cellNever d2
            have hcD := hc3.trans hc4
            clear hc3 hc4
            go_wp2_with fail
            go_ret2
            exact ⟨by rw [HE.out]; rfl, hcD⟩
      · obtain rfl : k = t.length := by omega
        have e := hG.out
        rw [patchGo_end] at e
        have HE := Lib.hid e
        clear hG e
        go_wp2_with fail
        go_ret2
        exact ⟨by rw [HE.out]; rfl, hc⟩
end Go.Proofs.YtjiaidchcldocaaGreatDoor
namespace Go.Proofs.YtjiaidchcldocaaGreatDoor
open Go.RowKit

theorem po_tail (x : ByteArray) : x.extract 6 x.size = toB (x.data.toList.drop 6) := by
  apply ByteArray.ext
  apply Array.toList_inj.1
  rw [Lib.extract_data, toB_data, List.take_of_length_le (by rw [List.length_drop, Lib.size_eq]; exact Nat.le_refl _)]
theorem po_len {p : List UInt8} {x : ByteArray} (h : p.isPrefixOf x.data.toList = true) (hp : p.length = 6) : (6 : Int) ≤ (x.size : Int) := by
  have := (List.isPrefixOf_iff_prefix.1 h).length_le
  rw [Lib.size_eq]
  omega
theorem po_lit (x : ByteArray) (l : List UInt8) : (x.toList == l) = decide (x.data.toList = l) := by
  rw [Lib.toList_data]
  by_cases h : x.data.toList = l <;> simp [h]
set_option maxHeartbeats 2000000 in
set_option maxRecDepth 100000 in
theorem refPatchOf_old (s : ByteArray) (w : World) (hs : s.size ≤ 100000000) :
    Calls Tryz.prog 56 #[.string s] w fun e w' => ∃ r, e = .returned (.tuple #[r, .int .i64 (parseG s.data.toList).2]) ∧ Chg Never w w' ∧ Rdv w' (Old w.heap.size) r (parseG s.data.toList).1 := by
  have hsz := Lib.size_eq s
  by_cases hl : 400000 < s.size
  · have HR : Hid (parseG s.data.toList = ([], 5)) := by unfold Hid parseG; rw [if_pos (by omega)]
    clear hsz
    go_enter Tryz.func56, Tryz.ntmps56
    go_wp2_with fail
    go_ret2
    exact ⟨_, by rw [HR.out]; rfl, Chg.refl _ _, by rw [HR.out]; exact rdv_nil _ _⟩
  · obtain ⟨I, z, hIz⟩ := last_of (parts_ne 10 s.data.toList)
    have hcnt := parts_count 10 s.data.toList
    have hpm := parts_mem 10 s.data.toList
    have HIZ := Lib.hid hIz
    have hIl : I.length ≤ 1000000 := by
      rw [hIz, List.length_append] at hcnt
      simp only [List.length_cons, List.length_nil] at hcnt
      omega
    have hIs : Hid (∀ x ∈ I.map toB, x.size ≤ 1000000000) := by
      intro x hx
      obtain ⟨y, hy, rfl⟩ := List.mem_map.1 hx
      have := hpm y (by rw [hIz]; exact List.mem_append_left _ hy)
      rw [toB_size']
      omega
    have hl4 : Hid (s.data.toList.length ≤ 400000) := by rw [Hid]; omega
    have hP := refParts_any s w hs
    rw [hIz, List.map_append] at hP
    have HP := Lib.hid hP
    have hLI : Hid ((I.map toB).length = I.length) := by rw [Hid, List.length_map]
    have hbL := linesB_toB I
    clear hP hIz hcnt hpm hsz
    go_enter Tryz.func56, Tryz.ntmps56
    go_wp2_with fail
    refine HP.out.mono ?_
    rintro e w1 ⟨r, rfl, hc1, hR0⟩
    have hR0 := hR0.sub (O' := Never) (fun _ _ h => h.elim)
    have hNL : (I.map toB ++ [z].map toB).length = I.length + 1 := by simp
    obtain ⟨n, hn⟩ : ∃ n, I.length = n := ⟨_, rfl⟩
    have HN := Lib.hid hn
    rw [hn] at hLI hNL hIl
    generalize I.map toB = L at hR0 hIs hLI hbL hNL
    obtain ⟨ra, rc, rfl, hra, hrb, hel⟩ := rdv_slice hR0
    unfold maxLen at hrb
    obtain ⟨sb, -, -, hrun, hsub⟩ := slice_g (P := Tryz.prog) (t := 86) (by kernel_rfl) size_str hR0 0 L.length (Nat.zero_le _) (by simp)
    obtain ⟨g, off, rfl, hgB, hglt, cz, -⟩ := elems_str hel (i := L.length) (x := toB z) (by simp)
    rw [List.drop_zero, Nat.sub_zero, Nat.sub_zero, List.take_left] at hsub
    rw [hNL] at hrun hra ⊢
    rw [Nat.sub_zero, Nat.sub_zero] at hrun
    have hrun := fun (wx : World) => hrun (L.length : Nat) wx rfl rfl
    rw [hLI.out] at hrun cz
    have sw : IntKind.i64.wrap (((n + 1 : Nat) : Int) - 1) = (n : Int) := by rw [show ((n + 1 : Nat) : Int) - 1 = (n : Int) by omega]; exact IntWalk.i64_in _ (by omega)
    have hDL : Hid ((linesB L).length = n) := by rw [hbL]; exact hn
    clear hel hNL hn hR0
    cases z with
    | cons c z =>
      have HR := Lib.hid (parseG_last (s := s.data.toList) (by rw [HIZ.out]; simp))
      obtain ⟨zz, hzz⟩ : ∃ zz, toB (c :: z) = zz := ⟨_, rfl⟩
      have tz : decide (0 < zz.size) = true := by rw [← hzz, toB_size']; simp
      have tz2 : decide ((0 : Int) < (zz.size : Int)) = true := by have := of_decide_eq_true tz; exact decide_eq_true (by omega)
      rw [hzz] at cz
      clear hrun hsub
      go_wp2_with fail
      go_ret2
      exact ⟨_, by rw [HR.out]; rfl, hc1, by rw [HR.out]; exact rdv_nil _ _⟩
    | nil =>
      obtain ⟨zz, hzz⟩ : ∃ zz, toB [] = zz := ⟨_, rfl⟩
      have tz : decide (0 < zz.size) = false := by rw [← hzz]; rfl
      have tz2 : decide ((0 : Int) < (zz.size : Int)) = false := by have := of_decide_eq_false tz; exact decide_eq_false (by omega)
      rw [hzz] at cz
      go_wp2_with fail
      clear hrun cz tz tz2 hzz
      obtain ⟨_, _, hq, -, -, hel⟩ := rdv_slice hsub
      simp only [Value.slice.injEq] at hq
      obtain ⟨rfl, hq2, rfl⟩ := hq
      rw [hLI.out] at hsub
      go_loopw [6, 7] (fun ov av wr => ∃ (k : Nat) (Lc : List Change), k ≤ n ∧ av = .int .i64 k ∧ Chg Never w1 wr ∧ Own 85 wr (Old w1.heap.size) ov Lc ∧ Hid (Lc.length ≤ k) ∧ Hid (ChgsInv (linesB L) k Lc)) (fun _ av _ => n - (intOf av).toNat)
      case atStart => exact ⟨0, [], Nat.zero_le _, rfl, Chg.refl _ _, own_nil _ _ _, Nat.zero_le _, cinv_start _⟩
      case round =>
        obtain ⟨k, Lc, hk, rfl, hc, hown, hLc, hI⟩ := hrel
        rename World => wr
        obtain ⟨va, vn, vc, rfl⟩ := own_isSlice hown
        by_cases hlt : k < n
        · by_cases h1 : k + 1 < n
          · obtain ⟨x, hx⟩ : ∃ x, L[k]? = some x := ⟨L[k]'(by rw [hLI.out]; exact hlt), by simp⟩
            obtain ⟨y, hy⟩ : ∃ y, L[k + 1]? = some y := ⟨L[k + 1]'(by rw [hLI.out]; exact h1), by simp⟩
            obtain ⟨b', off', hqe, -, -, d0, -⟩ := elems_str hel hx
            subst hqe
            obtain ⟨b'', off'', hqe, -, -, d1, -⟩ := elems_str hel hy
            simp only [Option.some.injEq, Addr.mk.injEq, and_true] at hqe
            obtain ⟨rfl, rfl⟩ := hqe
            have d0 := hc.cellNever d0
            have d1 := hc.cellNever d1
            have zx := hIs.out x (List.mem_of_getElem? hx)
            have zy := hIs.out y (List.mem_of_getElem? hy)
            have HX := Lib.hid (linesB_get hx)
            have HY := Lib.hid (linesB_get hy)
            have HD : Hid ((linesB L).drop k = x.data.toList :: y.data.toList :: (linesB L).drop (k + 2)) := by rw [Hid, drop_eq HX.out, drop_eq HY.out]
            have HS1 := fun wx => starts_any x (toB mmA) wx zx (by decide)
            have HS2 := fun wx => starts_any y (toB ppB) wx zy (by decide)
            rw [toB_data] at HS1 HS2
            have ex : x.extract 6 x.size = toB (x.data.toList.drop 6) := po_tail x
            have ey : y.extract 6 y.size = toB (y.data.toList.drop 6) := po_tail y
            have hFz : (toB (x.data.toList.drop 6)).size ≤ maxLen := by rw [toB_size', List.length_drop, ← Lib.size_eq]; unfold maxLen; omega
            have hGz : (toB (y.data.toList.drop 6)).size ≤ maxLen := by rw [toB_size', List.length_drop, ← Lib.size_eq]; unfold maxLen; omega
            have e3 : ((toB (x.data.toList.drop 6)).toList == (toB (y.data.toList.drop 6)).toList) = decide (x.data.toList.drop 6 = y.data.toList.drop 6) := str_eq_iff _ _
            have e4 : (x.toList == mmN) = decide (x.data.toList = mmN) := po_lit x _
            have e5 : (y.toList == ppN) = decide (y.data.toList = ppN) := po_lit y _
            unfold mmN at e4
            unfold ppN at e5
            have hb := Blk3.new wr 85 (.int .i64 1) (.string ⟨#[]⟩) (.slice none 0 0)
            have hA : Chg Never wr (wr.alloc (.cells #[.int .i64 1, .string ⟨#[]⟩, .slice none 0 0] 85)) := (Chg.refl Never wr).alloc _
            have HREF := Lib.hid (headed_ref x.data.toList y.data.toList)
            have hnA : x.data.toList = mmN → ¬ mmA.isPrefixOf x.data.toList = true := fun e => by rw [e]; decide
            have hnB : y.data.toList = ppN → ¬ ppB.isPrefixOf y.data.toList = true := fun e => by rw [e]; decide
            obtain ⟨F, hFe⟩ : ∃ F, toB (x.data.toList.drop 6) = F := ⟨_, rfl⟩
            obtain ⟨G, hGe⟩ : ∃ G, toB (y.data.toList.drop 6) = G := ⟨_, rfl⟩
            rw [hFe] at ex hFz e3
            rw [hGe] at ey hGz e3
            have HFX := Lib.hid hFe.symm
            have HGX := Lib.hid hGe.symm
            clear hFe hGe hx hy
            clear hel
            cases hp1 : mmA.isPrefixOf x.data.toList with
            | true =>
              have P1 := Lib.hid hp1
              have j6x := po_len hp1 rfl
              have t4 := e4.trans (decide_eq_false (fun h => hnA h hp1))
              cases hp2 : ppB.isPrefixOf y.data.toList with
              | true =>
                have P2 := Lib.hid hp2
                have j6y := po_len hp2 rfl
                have t5 := e5.trans (decide_eq_false (fun h => hnB h hp2))
                by_cases e : x.data.toList.drop 6 = y.data.toList.drop 6
                · have t3 := e3.trans (decide_eq_true e)
                  have HE := Lib.hid e
                  clear e e3 e4 e5 hnA hnB
                  go_wp2_with fail
                  refine (HS1 _).mono ?_
                  rintro e wz ⟨rfl, rfl⟩
                  rename World => wr
                  go_wp2_with fail
                  refine (HS2 _).mono ?_
                  rintro e wz ⟨rfl, rfl⟩
                  rename World => wr
                  rw [hp2]
                  go_upto_region 19 with fail
                  generalize wr.alloc (.cells #[.int .i64 1, .string ⟨#[]⟩, .slice none 0 0] 85) = wA at hb hA ⊢
                  obtain ⟨B, hBe⟩ : ∃ B, wr.heap.size = B := ⟨_, rfl⟩
                  rw [hBe] at hb ⊢
                  have hcB : wr.heap.size ≤ B := Nat.le_of_eq hBe
                  have hownB := hown.keep (O'' := fun q => Old w1.heap.size q ∨ B ≤ q) (Chg.refl Never wr) (fun _ _ hh => hh.elim) (fun q hq hh => hh.elim (fun h => h) (fun h => by omega))
                  have hownB := hownB.never hA
                  clear hBe hown HS1 HS2
                  go_quiet (fail)
                  have hcd : Chg Never wA (wA.drewN nq) := (Chg.refl Never wA).drewN nq
                  have hB := hb.keep hcd (fun h => h)
                  have hownB := hownB.never hcd
                  have hcq : Chg (fun q => B ≤ q) wr (wA.drewN nq) := (hA.trans hcd).mono (fun _ _ h => h.elim)
                  have hwq : Chg Never w1 (wA.drewN nq) := hc.trans (hA.trans hcd)
                  clear hcd hb hA
                  generalize wA.drewN nq = wq at hB hownB hcq hwq ⊢
                  obtain ⟨b0, b1, b2⟩ := hB.cell
                  have fz0 := hB.free 0
                  have fz1 := hB.free 1
                  have fz2 := hB.free 2
                  have hBs : Blk3 (wq.setCell ⟨B, 1, none⟩ (.string F)) B 85 (.int .i64 1) (.string F) (.slice none 0 0) := hB.set1 _
                  have hcs : Chg (fun q => B ≤ q) wq (wq.setCell ⟨B, 1, none⟩ (.string F)) := (Chg.refl (fun q => B ≤ q) wq).setCell (p := ⟨B, 1, none⟩) (.inr (Nat.le_refl B)) _
                  have hcr := hcq.trans hcs
                  have hHD := Lib.hid (show headedL x.data.toList y.data.toList = some ((1 : Int), x.data.toList.drop 6) from by rw [HREF.out, if_pos ⟨P1.out, P2.out, HE.out⟩])
                  clear hB hcq hwq
                  go_wp2_with fail
                  clear b0 b1 b2 fz0 fz1 fz2
                  generalize wq.setCell ⟨B, 1, none⟩ (.string F) = wS at hBs hcs hcr ⊢
                  have hcwS : Chg Never w1 wS := hc.trans' hcr (fun q hq hh => absurd hh (by have := hc.size; omega))
                  have hownS := hownB.keep (O'' := fun q => Old w1.heap.size q ∨ B ≤ q) hcs (fun q _ hh => .inr hh) (fun _ _ hh => hh)
                  have hTT := refTake_take ((linesB L).drop (k + 2)) (k + 2) [] 0 0
                  have hRH := readHunks_any L (k + 2) _ wS (hsub.never hcwS) (by rw [hLI.out]; omega) hIs.out (by rw [hLI.out]; omega)
                  clear hcs hcr hownB
                  cases ht : takeU ((linesB L).drop (k + 2)) [] 0 0 with
                  | none =>
                    rw [ht] at hTT
                    obtain ⟨j, hj⟩ := hTT
                    rw [hj] at hRH
                    have hRH := Lib.hid hRH
                    have hNO := Lib.hid (cinv_take hI.out HD.out hHD.out ht)
                    clear hj ht
                    refine hRH.out.mono ?_
                    rintro e w6 ⟨r6, rfl, hc6, hr6⟩
                    obtain ⟨ea, ec, rfl, -, -, -⟩ := rdv_slice hr6
                    have hw6 := hcwS.trans hc6
                    clear hRH hr6
                    have HR := Lib.hid (parseG_none (s := s.data.toList) (by rw [HIZ.out, List.dropLast_concat, ← hbL]; exact hNO.out))
                    clear hI
                    go_wp2_with fail
                    go_ret2
                    exact ⟨_, by rw [HR.out]; rfl, hc1.trans hw6, by rw [HR.out]; exact rdv_nil _ _⟩
                  | some q =>
                    obtain ⟨hs6, rest⟩ := q
                    rw [ht] at hTT
                    obtain ⟨j, hj, hj1, hj2, rfl⟩ := hTT
                    rw [hj] at hRH
                    have hRH := Lib.hid hRH
                    rw [List.drop_drop, show k + 2 + (j - (k + 2)) = j by omega] at ht
                    have hI2 := Lib.hid (cinv_step hI.out HD.out hHD.out ht hj1)
                    have hjn : j ≤ n := by rw [List.length_drop, hDL.out] at hj2; omega
                    clear hj ht hI hj2
                    refine hRH.out.mono ?_
                    rintro e w6 ⟨r6, rfl, hc6, hr6⟩
                    obtain ⟨ea, ec, rfl, -, -, -⟩ := rdv_slice hr6
                    have hw6 := hcwS.trans hc6
                    have hB6 := hBs.keep hc6 (fun h => h)
                    have hown6 := hownS.never hc6
                    obtain ⟨b0, b1, b2⟩ := hB6.cell
                    have fz2 := hB6.free 2
                    have hS : Chg (fun q => q = B) w6 (w6.setCell ⟨B, 2, none⟩ (.slice ea hs6.length ec)) := (Chg.refl (fun q => q = B) w6).setCell (p := ⟨B, 2, none⟩) (.inr rfl) _
                    have hB7 := hB6.set2 (.slice ea hs6.length ec)
                    have hown7 := hown6.keep (O'' := Old w1.heap.size) hS (fun q _ hh => .inr (Nat.le_of_eq hh.symm)) (fun _ _ hh => .inl hh)
                    have hBS := hBs.lt
                    have hr7 := hr6.keep (O'' := fun q => q < wS.heap.size) hS (fun q _ hh => by have h : q = B := hh; unfold Old; omega) (fun _ _ hh => hh)
                    have hw7 : Chg Never w1 (w6.setCell ⟨B, 2, none⟩ (.slice ea hs6.length ec)) := hw6.trans' hS (fun q hq hh => by have h : q = B := hh; have := hc.size; omega)
                    have hpt : (F : ByteArray).size ≤ maxLen := hFz
                    have hvl := own_block_lt hownS
                    have hy : Dat.rd (w6.setCell ⟨B, 2, none⟩ (.slice ea hs6.length ec)) (fun q => Old w1.heap.size q ∨ (Value.slice va vn vc).ownBlock = some q) [.int .i64 1, .string F, .slice ea hs6.length ec] (⟨1, F, hs6⟩ : Change) := ⟨_, rfl, hpt, hr7.sub (fun q _ hh => by
                      rcases hh with hh | hh
                      · unfold Old at hh; have := hcwS.size; omega
                      · exact hvl q hh)⟩
                    have hLc9 : Lc.length ≤ 1000000000 := by have := hLc.out; omega
                    obtain ⟨c0, c1, c2⟩ := hB7.cell
                    clear hRH hr6 hr7 hBs hownS hown6 hS hB7 hc6
                    go_wp2_with (at_builtin; refine wpList_push (by rfl) _ _ 51 (by rfl) elemOk_change (O := Old w1.heap.size) (l := Lc) (y := (⟨1, F, hs6⟩ : Change)) (by rfl) (by rfl) (by simp) hown7 hy (old_lt hw7) hLc9 ?_; intro v' w8 hown8 hc8 _)
                    have hw8 := own_step hw7 hown7 hc8
                    go_wp2_with fail
                    go_roundw
                    case rel => exact ⟨j, Lc ++ [⟨1, F, hs6⟩], hjn, rfl, hw8, hown8, by rw [Hid, List.length_append]; have := hLc.out; simp; omega, by rw [HFX.out]; exact hI2⟩
                    case measure => simp [intOf] <;> omega
                · have t3 := e3.trans (decide_eq_false e)
                  have hno := Lib.hid (cinv_head hI.out HD.out (by rw [HREF.out, if_neg (fun q => e q.2.2), if_neg (fun q => hnA q.1 P1.out), if_neg (fun q => hnB q.2 P2.out)]))
                  clear e e3 e4 e5 hnA hnB
                  go_wp2_with fail
                  refine (HS1 _).mono ?_
                  rintro e wz ⟨rfl, rfl⟩
                  rename World => wr
                  go_wp2_with fail
                  refine (HS2 _).mono ?_
                  rintro e wz ⟨rfl, rfl⟩
                  rename World => wr
                  rw [hp2]
                  go_upto_region 19 with fail
                  generalize wr.alloc (.cells #[.int .i64 1, .string ⟨#[]⟩, .slice none 0 0] 85) = wA at hb hA ⊢
                  obtain ⟨B, hBe⟩ : ∃ B, wr.heap.size = B := ⟨_, rfl⟩
                  rw [hBe] at hb ⊢
                  have hcB : wr.heap.size ≤ B := Nat.le_of_eq hBe
                  have hownB := hown.keep (O'' := fun q => Old w1.heap.size q ∨ B ≤ q) (Chg.refl Never wr) (fun _ _ hh => hh.elim) (fun q hq hh => hh.elim (fun h => h) (fun h => by omega))
                  have hownB := hownB.never hA
                  clear hBe hown HS1 HS2
                  go_quiet (fail)
                  have hcd : Chg Never wA (wA.drewN nq) := (Chg.refl Never wA).drewN nq
                  have hB := hb.keep hcd (fun h => h)
                  have hownB := hownB.never hcd
                  have hcq : Chg (fun q => B ≤ q) wr (wA.drewN nq) := (hA.trans hcd).mono (fun _ _ h => h.elim)
                  have hwq : Chg Never w1 (wA.drewN nq) := hc.trans (hA.trans hcd)
                  clear hcd hb hA
                  generalize wA.drewN nq = wq at hB hownB hcq hwq ⊢
                  obtain ⟨b0, b1, b2⟩ := hB.cell
                  have fz0 := hB.free 0
                  have fz1 := hB.free 1
                  have fz2 := hB.free 2
                  have HR := Lib.hid (parseG_none (s := s.data.toList) (by rw [HIZ.out, List.dropLast_concat, ← hbL]; exact hno.out))
                  clear hI
                  go_wp2_with fail
                  go_ret2
                  exact ⟨_, by rw [HR.out]; rfl, hc1.trans hwq, by rw [HR.out]; exact rdv_nil _ _⟩
              | false =>
                have P2 := Lib.hid hp2
                by_cases e : y.data.toList = ppN
                · have t5 := e5.trans (decide_eq_true e)
                  have hH : Hid (headedL x.data.toList y.data.toList = some ((3 : Int), x.data.toList.drop 6)) := by rw [Hid, HREF.out, if_neg (fun q => by rw [P2.out] at q; exact absurd q.2.1 (by decide)), if_neg (fun q => hnA q.1 P1.out), if_pos ⟨P1.out, e⟩]
                  clear e e3 e4 e5 hnA hnB
                  go_wp2_with fail
                  refine (HS1 _).mono ?_
                  rintro e wz ⟨rfl, rfl⟩
                  rename World => wr
                  go_wp2_with fail
                  refine (HS2 _).mono ?_
                  rintro e wz ⟨rfl, rfl⟩
                  rename World => wr
                  rw [hp2]
                  go_upto_region 19 with fail
                  generalize wr.alloc (.cells #[.int .i64 1, .string ⟨#[]⟩, .slice none 0 0] 85) = wA at hb hA ⊢
                  obtain ⟨B, hBe⟩ : ∃ B, wr.heap.size = B := ⟨_, rfl⟩
                  rw [hBe] at hb ⊢
                  have hcB : wr.heap.size ≤ B := Nat.le_of_eq hBe
                  have hownB := hown.keep (O'' := fun q => Old w1.heap.size q ∨ B ≤ q) (Chg.refl Never wr) (fun _ _ hh => hh.elim) (fun q hq hh => hh.elim (fun h => h) (fun h => by omega))
                  have hownB := hownB.never hA
                  clear hBe hown HS1 HS2
                  go_quiet (fail)
                  have hcd : Chg Never wA (wA.drewN nq) := (Chg.refl Never wA).drewN nq
                  have hB := hb.keep hcd (fun h => h)
                  have hownB := hownB.never hcd
                  have hcq : Chg (fun q => B ≤ q) wr (wA.drewN nq) := (hA.trans hcd).mono (fun _ _ h => h.elim)
                  have hwq : Chg Never w1 (wA.drewN nq) := hc.trans (hA.trans hcd)
                  clear hcd hb hA
                  generalize wA.drewN nq = wq at hB hownB hcq hwq ⊢
                  obtain ⟨b0, b1, b2⟩ := hB.cell
                  have fz0 := hB.free 0
                  have fz1 := hB.free 1
                  have fz2 := hB.free 2
                  have hBs : Blk3 ((wq.setCell ⟨B, 0, none⟩ (.int .i64 3)).setCell ⟨B, 1, none⟩ (.string F)) B 85 (.int .i64 3) (.string F) (.slice none 0 0) := (hB.set0 _).set1 _
                  have hcs : Chg (fun q => B ≤ q) wq ((wq.setCell ⟨B, 0, none⟩ (.int .i64 3)).setCell ⟨B, 1, none⟩ (.string F)) := ((Chg.refl (fun q => B ≤ q) wq).setCell (p := ⟨B, 0, none⟩) (.inr (Nat.le_refl B)) _).setCell (p := ⟨B, 1, none⟩) (.inr (Nat.le_refl B)) _
                  have hcr := hcq.trans hcs
                  have hHD := Lib.hid hH.out
                  clear hB hcq hwq
                  go_wp2_with fail
                  clear b0 b1 b2 fz0 fz1 fz2
                  generalize (wq.setCell ⟨B, 0, none⟩ (.int .i64 3)).setCell ⟨B, 1, none⟩ (.string F) = wS at hBs hcs hcr ⊢
                  have hcwS : Chg Never w1 wS := hc.trans' hcr (fun q hq hh => absurd hh (by have := hc.size; omega))
                  have hownS := hownB.keep (O'' := fun q => Old w1.heap.size q ∨ B ≤ q) hcs (fun q _ hh => .inr hh) (fun _ _ hh => hh)
                  have hTT := refTake_take ((linesB L).drop (k + 2)) (k + 2) [] 0 0
                  have hRH := readHunks_any L (k + 2) _ wS (hsub.never hcwS) (by rw [hLI.out]; omega) hIs.out (by rw [hLI.out]; omega)
                  clear hcs hcr hownB
                  cases ht : takeU ((linesB L).drop (k + 2)) [] 0 0 with
                  | none =>
                    rw [ht] at hTT
                    obtain ⟨j, hj⟩ := hTT
                    rw [hj] at hRH
                    have hRH := Lib.hid hRH
                    have hNO := Lib.hid (cinv_take hI.out HD.out hHD.out ht)
                    clear hj ht
                    refine hRH.out.mono ?_
                    rintro e w6 ⟨r6, rfl, hc6, hr6⟩
                    obtain ⟨ea, ec, rfl, -, -, -⟩ := rdv_slice hr6
                    have hw6 := hcwS.trans hc6
                    clear hRH hr6
                    have HR := Lib.hid (parseG_none (s := s.data.toList) (by rw [HIZ.out, List.dropLast_concat, ← hbL]; exact hNO.out))
                    clear hI
                    go_wp2_with fail
                    go_ret2
                    exact ⟨_, by rw [HR.out]; rfl, hc1.trans hw6, by rw [HR.out]; exact rdv_nil _ _⟩
                  | some q =>
                    obtain ⟨hs6, rest⟩ := q
                    rw [ht] at hTT
                    obtain ⟨j, hj, hj1, hj2, rfl⟩ := hTT
                    rw [hj] at hRH
                    have hRH := Lib.hid hRH
                    rw [List.drop_drop, show k + 2 + (j - (k + 2)) = j by omega] at ht
                    have hI2 := Lib.hid (cinv_step hI.out HD.out hHD.out ht hj1)
                    have hjn : j ≤ n := by rw [List.length_drop, hDL.out] at hj2; omega
                    clear hj ht hI hj2
                    refine hRH.out.mono ?_
                    rintro e w6 ⟨r6, rfl, hc6, hr6⟩
                    obtain ⟨ea, ec, rfl, -, -, -⟩ := rdv_slice hr6
                    have hw6 := hcwS.trans hc6
                    have hB6 := hBs.keep hc6 (fun h => h)
                    have hown6 := hownS.never hc6
                    obtain ⟨b0, b1, b2⟩ := hB6.cell
                    have fz2 := hB6.free 2
                    have hS : Chg (fun q => q = B) w6 (w6.setCell ⟨B, 2, none⟩ (.slice ea hs6.length ec)) := (Chg.refl (fun q => q = B) w6).setCell (p := ⟨B, 2, none⟩) (.inr rfl) _
                    have hB7 := hB6.set2 (.slice ea hs6.length ec)
                    have hown7 := hown6.keep (O'' := Old w1.heap.size) hS (fun q _ hh => .inr (Nat.le_of_eq hh.symm)) (fun _ _ hh => .inl hh)
                    have hBS := hBs.lt
                    have hr7 := hr6.keep (O'' := fun q => q < wS.heap.size) hS (fun q _ hh => by have h : q = B := hh; unfold Old; omega) (fun _ _ hh => hh)
                    have hw7 : Chg Never w1 (w6.setCell ⟨B, 2, none⟩ (.slice ea hs6.length ec)) := hw6.trans' hS (fun q hq hh => by have h : q = B := hh; have := hc.size; omega)
                    have hpt : (F : ByteArray).size ≤ maxLen := hFz
                    have hvl := own_block_lt hownS
                    have hy : Dat.rd (w6.setCell ⟨B, 2, none⟩ (.slice ea hs6.length ec)) (fun q => Old w1.heap.size q ∨ (Value.slice va vn vc).ownBlock = some q) [.int .i64 3, .string F, .slice ea hs6.length ec] (⟨3, F, hs6⟩ : Change) := ⟨_, rfl, hpt, hr7.sub (fun q _ hh => by
                      rcases hh with hh | hh
                      · unfold Old at hh; have := hcwS.size; omega
                      · exact hvl q hh)⟩
                    have hLc9 : Lc.length ≤ 1000000000 := by have := hLc.out; omega
                    obtain ⟨c0, c1, c2⟩ := hB7.cell
                    clear hRH hr6 hr7 hBs hownS hown6 hS hB7 hc6
                    go_wp2_with (at_builtin; refine wpList_push (by rfl) _ _ 51 (by rfl) elemOk_change (O := Old w1.heap.size) (l := Lc) (y := (⟨3, F, hs6⟩ : Change)) (by rfl) (by rfl) (by simp) hown7 hy (old_lt hw7) hLc9 ?_; intro v' w8 hown8 hc8 _)
                    have hw8 := own_step hw7 hown7 hc8
                    go_wp2_with fail
                    go_roundw
                    case rel => exact ⟨j, Lc ++ [⟨3, F, hs6⟩], hjn, rfl, hw8, hown8, by rw [Hid, List.length_append]; have := hLc.out; simp; omega, by rw [HFX.out]; exact hI2⟩
                    case measure => simp [intOf] <;> omega
                · have t5 := e5.trans (decide_eq_false e)
                  have hno := Lib.hid (cinv_head hI.out HD.out (by rw [HREF.out, if_neg (fun q => by rw [P2.out] at q; exact absurd q.2.1 (by decide)), if_neg (fun q => hnA q.1 P1.out), if_neg (fun q => e q.2)]))
                  clear e e3 e4 e5 hnA hnB
                  go_wp2_with fail
                  refine (HS1 _).mono ?_
                  rintro e wz ⟨rfl, rfl⟩
                  rename World => wr
                  go_wp2_with fail
                  refine (HS2 _).mono ?_
                  rintro e wz ⟨rfl, rfl⟩
                  rename World => wr
                  rw [hp2]
                  go_upto_region 19 with fail
                  generalize wr.alloc (.cells #[.int .i64 1, .string ⟨#[]⟩, .slice none 0 0] 85) = wA at hb hA ⊢
                  obtain ⟨B, hBe⟩ : ∃ B, wr.heap.size = B := ⟨_, rfl⟩
                  rw [hBe] at hb ⊢
                  have hcB : wr.heap.size ≤ B := Nat.le_of_eq hBe
                  have hownB := hown.keep (O'' := fun q => Old w1.heap.size q ∨ B ≤ q) (Chg.refl Never wr) (fun _ _ hh => hh.elim) (fun q hq hh => hh.elim (fun h => h) (fun h => by omega))
                  have hownB := hownB.never hA
                  clear hBe hown HS1 HS2
                  go_quiet (fail)
                  have hcd : Chg Never wA (wA.drewN nq) := (Chg.refl Never wA).drewN nq
                  have hB := hb.keep hcd (fun h => h)
                  have hownB := hownB.never hcd
                  have hcq : Chg (fun q => B ≤ q) wr (wA.drewN nq) := (hA.trans hcd).mono (fun _ _ h => h.elim)
                  have hwq : Chg Never w1 (wA.drewN nq) := hc.trans (hA.trans hcd)
                  clear hcd hb hA
                  generalize wA.drewN nq = wq at hB hownB hcq hwq ⊢
                  obtain ⟨b0, b1, b2⟩ := hB.cell
                  have fz0 := hB.free 0
                  have fz1 := hB.free 1
                  have fz2 := hB.free 2
                  have HR := Lib.hid (parseG_none (s := s.data.toList) (by rw [HIZ.out, List.dropLast_concat, ← hbL]; exact hno.out))
                  clear hI
                  go_wp2_with fail
                  go_ret2
                  exact ⟨_, by rw [HR.out]; rfl, hc1.trans hwq, by rw [HR.out]; exact rdv_nil _ _⟩
            | false =>
              have P1 := Lib.hid hp1
              cases hp2 : ppB.isPrefixOf y.data.toList with
              | true =>
                have P2 := Lib.hid hp2
                have j6y := po_len hp2 rfl
                by_cases e : x.data.toList = mmN
                · have t4 := e4.trans (decide_eq_true e)
                  have hH : Hid (headedL x.data.toList y.data.toList = some ((2 : Int), y.data.toList.drop 6)) := by rw [Hid, HREF.out, if_neg (fun q => by rw [P1.out] at q; exact absurd q.1 (by decide)), if_pos ⟨e, P2.out⟩]
                  clear e e3 e4 e5 hnA hnB
                  go_wp2_with fail
                  refine (HS1 _).mono ?_
                  rintro e wz ⟨rfl, rfl⟩
                  rename World => wr
                  go_wp2_with fail
                  refine (HS2 _).mono ?_
                  rintro e wz ⟨rfl, rfl⟩
                  rename World => wr
                  rw [hp2]
                  go_upto_region 19 with fail
                  generalize wr.alloc (.cells #[.int .i64 1, .string ⟨#[]⟩, .slice none 0 0] 85) = wA at hb hA ⊢
                  obtain ⟨B, hBe⟩ : ∃ B, wr.heap.size = B := ⟨_, rfl⟩
                  rw [hBe] at hb ⊢
                  have hcB : wr.heap.size ≤ B := Nat.le_of_eq hBe
                  have hownB := hown.keep (O'' := fun q => Old w1.heap.size q ∨ B ≤ q) (Chg.refl Never wr) (fun _ _ hh => hh.elim) (fun q hq hh => hh.elim (fun h => h) (fun h => by omega))
                  have hownB := hownB.never hA
                  clear hBe hown HS1 HS2
                  go_quiet (fail)
                  have hcd : Chg Never wA (wA.drewN nq) := (Chg.refl Never wA).drewN nq
                  have hB := hb.keep hcd (fun h => h)
                  have hownB := hownB.never hcd
                  have hcq : Chg (fun q => B ≤ q) wr (wA.drewN nq) := (hA.trans hcd).mono (fun _ _ h => h.elim)
                  have hwq : Chg Never w1 (wA.drewN nq) := hc.trans (hA.trans hcd)
                  clear hcd hb hA
                  generalize wA.drewN nq = wq at hB hownB hcq hwq ⊢
                  obtain ⟨b0, b1, b2⟩ := hB.cell
                  have fz0 := hB.free 0
                  have fz1 := hB.free 1
                  have fz2 := hB.free 2
                  have hBs : Blk3 ((wq.setCell ⟨B, 0, none⟩ (.int .i64 2)).setCell ⟨B, 1, none⟩ (.string G)) B 85 (.int .i64 2) (.string G) (.slice none 0 0) := (hB.set0 _).set1 _
                  have hcs : Chg (fun q => B ≤ q) wq ((wq.setCell ⟨B, 0, none⟩ (.int .i64 2)).setCell ⟨B, 1, none⟩ (.string G)) := ((Chg.refl (fun q => B ≤ q) wq).setCell (p := ⟨B, 0, none⟩) (.inr (Nat.le_refl B)) _).setCell (p := ⟨B, 1, none⟩) (.inr (Nat.le_refl B)) _
                  have hcr := hcq.trans hcs
                  have hHD := Lib.hid hH.out
                  clear hB hcq hwq
                  go_wp2_with fail
                  clear b0 b1 b2 fz0 fz1 fz2
                  generalize (wq.setCell ⟨B, 0, none⟩ (.int .i64 2)).setCell ⟨B, 1, none⟩ (.string G) = wS at hBs hcs hcr ⊢
                  have hcwS : Chg Never w1 wS := hc.trans' hcr (fun q hq hh => absurd hh (by have := hc.size; omega))
                  have hownS := hownB.keep (O'' := fun q => Old w1.heap.size q ∨ B ≤ q) hcs (fun q _ hh => .inr hh) (fun _ _ hh => hh)
                  have hTT := refTake_take ((linesB L).drop (k + 2)) (k + 2) [] 0 0
                  have hRH := readHunks_any L (k + 2) _ wS (hsub.never hcwS) (by rw [hLI.out]; omega) hIs.out (by rw [hLI.out]; omega)
                  clear hcs hcr hownB
                  cases ht : takeU ((linesB L).drop (k + 2)) [] 0 0 with
                  | none =>
                    rw [ht] at hTT
                    obtain ⟨j, hj⟩ := hTT
                    rw [hj] at hRH
                    have hRH := Lib.hid hRH
                    have hNO := Lib.hid (cinv_take hI.out HD.out hHD.out ht)
                    clear hj ht
                    refine hRH.out.mono ?_
                    rintro e w6 ⟨r6, rfl, hc6, hr6⟩
                    obtain ⟨ea, ec, rfl, -, -, -⟩ := rdv_slice hr6
                    have hw6 := hcwS.trans hc6
                    clear hRH hr6
                    have HR := Lib.hid (parseG_none (s := s.data.toList) (by rw [HIZ.out, List.dropLast_concat, ← hbL]; exact hNO.out))
                    clear hI
                    go_wp2_with fail
                    go_ret2
                    exact ⟨_, by rw [HR.out]; rfl, hc1.trans hw6, by rw [HR.out]; exact rdv_nil _ _⟩
                  | some q =>
                    obtain ⟨hs6, rest⟩ := q
                    rw [ht] at hTT
                    obtain ⟨j, hj, hj1, hj2, rfl⟩ := hTT
                    rw [hj] at hRH
                    have hRH := Lib.hid hRH
                    rw [List.drop_drop, show k + 2 + (j - (k + 2)) = j by omega] at ht
                    have hI2 := Lib.hid (cinv_step hI.out HD.out hHD.out ht hj1)
                    have hjn : j ≤ n := by rw [List.length_drop, hDL.out] at hj2; omega
                    clear hj ht hI hj2
                    refine hRH.out.mono ?_
                    rintro e w6 ⟨r6, rfl, hc6, hr6⟩
                    obtain ⟨ea, ec, rfl, -, -, -⟩ := rdv_slice hr6
                    have hw6 := hcwS.trans hc6
                    have hB6 := hBs.keep hc6 (fun h => h)
                    have hown6 := hownS.never hc6
                    obtain ⟨b0, b1, b2⟩ := hB6.cell
                    have fz2 := hB6.free 2
                    have hS : Chg (fun q => q = B) w6 (w6.setCell ⟨B, 2, none⟩ (.slice ea hs6.length ec)) := (Chg.refl (fun q => q = B) w6).setCell (p := ⟨B, 2, none⟩) (.inr rfl) _
                    have hB7 := hB6.set2 (.slice ea hs6.length ec)
                    have hown7 := hown6.keep (O'' := Old w1.heap.size) hS (fun q _ hh => .inr (Nat.le_of_eq hh.symm)) (fun _ _ hh => .inl hh)
                    have hBS := hBs.lt
                    have hr7 := hr6.keep (O'' := fun q => q < wS.heap.size) hS (fun q _ hh => by have h : q = B := hh; unfold Old; omega) (fun _ _ hh => hh)
                    have hw7 : Chg Never w1 (w6.setCell ⟨B, 2, none⟩ (.slice ea hs6.length ec)) := hw6.trans' hS (fun q hq hh => by have h : q = B := hh; have := hc.size; omega)
                    have hpt : (G : ByteArray).size ≤ maxLen := hGz
                    have hvl := own_block_lt hownS
                    have hy : Dat.rd (w6.setCell ⟨B, 2, none⟩ (.slice ea hs6.length ec)) (fun q => Old w1.heap.size q ∨ (Value.slice va vn vc).ownBlock = some q) [.int .i64 2, .string G, .slice ea hs6.length ec] (⟨2, G, hs6⟩ : Change) := ⟨_, rfl, hpt, hr7.sub (fun q _ hh => by
                      rcases hh with hh | hh
                      · unfold Old at hh; have := hcwS.size; omega
                      · exact hvl q hh)⟩
                    have hLc9 : Lc.length ≤ 1000000000 := by have := hLc.out; omega
                    obtain ⟨c0, c1, c2⟩ := hB7.cell
                    clear hRH hr6 hr7 hBs hownS hown6 hS hB7 hc6
                    go_wp2_with (at_builtin; refine wpList_push (by rfl) _ _ 51 (by rfl) elemOk_change (O := Old w1.heap.size) (l := Lc) (y := (⟨2, G, hs6⟩ : Change)) (by rfl) (by rfl) (by simp) hown7 hy (old_lt hw7) hLc9 ?_; intro v' w8 hown8 hc8 _)
                    have hw8 := own_step hw7 hown7 hc8
                    go_wp2_with fail
                    go_roundw
                    case rel => exact ⟨j, Lc ++ [⟨2, G, hs6⟩], hjn, rfl, hw8, hown8, by rw [Hid, List.length_append]; have := hLc.out; simp; omega, by rw [HGX.out]; exact hI2⟩
                    case measure => simp [intOf] <;> omega
                · have t4 := e4.trans (decide_eq_false e)
                  have hno := Lib.hid (cinv_head hI.out HD.out (by rw [HREF.out, if_neg (fun q => by rw [P1.out] at q; exact absurd q.1 (by decide)), if_neg (fun q => e q.1), if_neg (fun q => by rw [P1.out] at q; exact absurd q.1 (by decide))]))
                  clear e e3 e4 e5 hnA hnB
                  go_wp2_with fail
                  refine (HS1 _).mono ?_
                  rintro e wz ⟨rfl, rfl⟩
                  rename World => wr
                  go_wp2_with fail
                  refine (HS2 _).mono ?_
                  rintro e wz ⟨rfl, rfl⟩
                  rename World => wr
                  rw [hp2]
                  go_upto_region 19 with fail
                  generalize wr.alloc (.cells #[.int .i64 1, .string ⟨#[]⟩, .slice none 0 0] 85) = wA at hb hA ⊢
                  obtain ⟨B, hBe⟩ : ∃ B, wr.heap.size = B := ⟨_, rfl⟩
                  rw [hBe] at hb ⊢
                  have hcB : wr.heap.size ≤ B := Nat.le_of_eq hBe
                  have hownB := hown.keep (O'' := fun q => Old w1.heap.size q ∨ B ≤ q) (Chg.refl Never wr) (fun _ _ hh => hh.elim) (fun q hq hh => hh.elim (fun h => h) (fun h => by omega))
                  have hownB := hownB.never hA
                  clear hBe hown HS1 HS2
                  go_quiet (fail)
                  have hcd : Chg Never wA (wA.drewN nq) := (Chg.refl Never wA).drewN nq
                  have hB := hb.keep hcd (fun h => h)
                  have hownB := hownB.never hcd
                  have hcq : Chg (fun q => B ≤ q) wr (wA.drewN nq) := (hA.trans hcd).mono (fun _ _ h => h.elim)
                  have hwq : Chg Never w1 (wA.drewN nq) := hc.trans (hA.trans hcd)
                  clear hcd hb hA
                  generalize wA.drewN nq = wq at hB hownB hcq hwq ⊢
                  obtain ⟨b0, b1, b2⟩ := hB.cell
                  have fz0 := hB.free 0
                  have fz1 := hB.free 1
                  have fz2 := hB.free 2
                  have HR := Lib.hid (parseG_none (s := s.data.toList) (by rw [HIZ.out, List.dropLast_concat, ← hbL]; exact hno.out))
                  clear hI
                  go_wp2_with fail
                  go_ret2
                  exact ⟨_, by rw [HR.out]; rfl, hc1.trans hwq, by rw [HR.out]; exact rdv_nil _ _⟩
              | false =>
                have P2 := Lib.hid hp2
                have hno := Lib.hid (cinv_head hI.out HD.out (by rw [HREF.out, if_neg (fun q => by rw [P1.out] at q; exact absurd q.1 (by decide)), if_neg (fun q => by rw [P2.out] at q; exact absurd q.2 (by decide)), if_neg (fun q => by rw [P1.out] at q; exact absurd q.1 (by decide))]))
                by_cases e : x.data.toList = mmN
                · have t4 := e4.trans (decide_eq_true e)
                  clear e e3 e4 e5 hnA hnB
                  go_wp2_with fail
                  refine (HS1 _).mono ?_
                  rintro e wz ⟨rfl, rfl⟩
                  rename World => wr
                  go_wp2_with fail
                  refine (HS2 _).mono ?_
                  rintro e wz ⟨rfl, rfl⟩
                  rename World => wr
                  rw [hp2]
                  go_upto_region 19 with fail
                  generalize wr.alloc (.cells #[.int .i64 1, .string ⟨#[]⟩, .slice none 0 0] 85) = wA at hb hA ⊢
                  obtain ⟨B, hBe⟩ : ∃ B, wr.heap.size = B := ⟨_, rfl⟩
                  rw [hBe] at hb ⊢
                  have hcB : wr.heap.size ≤ B := Nat.le_of_eq hBe
                  have hownB := hown.keep (O'' := fun q => Old w1.heap.size q ∨ B ≤ q) (Chg.refl Never wr) (fun _ _ hh => hh.elim) (fun q hq hh => hh.elim (fun h => h) (fun h => by omega))
                  have hownB := hownB.never hA
                  clear hBe hown HS1 HS2
                  go_quiet (fail)
                  have hcd : Chg Never wA (wA.drewN nq) := (Chg.refl Never wA).drewN nq
                  have hB := hb.keep hcd (fun h => h)
                  have hownB := hownB.never hcd
                  have hcq : Chg (fun q => B ≤ q) wr (wA.drewN nq) := (hA.trans hcd).mono (fun _ _ h => h.elim)
                  have hwq : Chg Never w1 (wA.drewN nq) := hc.trans (hA.trans hcd)
                  clear hcd hb hA
                  generalize wA.drewN nq = wq at hB hownB hcq hwq ⊢
                  obtain ⟨b0, b1, b2⟩ := hB.cell
                  have fz0 := hB.free 0
                  have fz1 := hB.free 1
                  have fz2 := hB.free 2
                  have HR := Lib.hid (parseG_none (s := s.data.toList) (by rw [HIZ.out, List.dropLast_concat, ← hbL]; exact hno.out))
                  clear hI
                  go_wp2_with fail
                  go_ret2
                  exact ⟨_, by rw [HR.out]; rfl, hc1.trans hwq, by rw [HR.out]; exact rdv_nil _ _⟩
                · have t4 := e4.trans (decide_eq_false e)
                  clear e e3 e4 e5 hnA hnB
                  go_wp2_with fail
                  refine (HS1 _).mono ?_
                  rintro e wz ⟨rfl, rfl⟩
                  rename World => wr
                  go_wp2_with fail
                  refine (HS2 _).mono ?_
                  rintro e wz ⟨rfl, rfl⟩
                  rename World => wr
                  rw [hp2]
                  go_upto_region 19 with fail
                  generalize wr.alloc (.cells #[.int .i64 1, .string ⟨#[]⟩, .slice none 0 0] 85) = wA at hb hA ⊢
                  obtain ⟨B, hBe⟩ : ∃ B, wr.heap.size = B := ⟨_, rfl⟩
                  rw [hBe] at hb ⊢
                  have hcB : wr.heap.size ≤ B := Nat.le_of_eq hBe
                  have hownB := hown.keep (O'' := fun q => Old w1.heap.size q ∨ B ≤ q) (Chg.refl Never wr) (fun _ _ hh => hh.elim) (fun q hq hh => hh.elim (fun h => h) (fun h => by omega))
                  have hownB := hownB.never hA
                  clear hBe hown HS1 HS2
                  go_quiet (fail)
                  have hcd : Chg Never wA (wA.drewN nq) := (Chg.refl Never wA).drewN nq
                  have hB := hb.keep hcd (fun h => h)
                  have hownB := hownB.never hcd
                  have hcq : Chg (fun q => B ≤ q) wr (wA.drewN nq) := (hA.trans hcd).mono (fun _ _ h => h.elim)
                  have hwq : Chg Never w1 (wA.drewN nq) := hc.trans (hA.trans hcd)
                  clear hcd hb hA
                  generalize wA.drewN nq = wq at hB hownB hcq hwq ⊢
                  obtain ⟨b0, b1, b2⟩ := hB.cell
                  have fz0 := hB.free 0
                  have fz1 := hB.free 1
                  have fz2 := hB.free 2
                  have HR := Lib.hid (parseG_none (s := s.data.toList) (by rw [HIZ.out, List.dropLast_concat, ← hbL]; exact hno.out))
                  clear hI
                  go_wp2_with fail
                  go_ret2
                  exact ⟨_, by rw [HR.out]; rfl, hc1.trans hwq, by rw [HR.out]; exact rdv_nil _ _⟩
          · have hn1 := Lib.hid (cinv_one hI.out (by rw [hDL.out]; omega))
            clear hel
            have HR := Lib.hid (parseG_none (s := s.data.toList) (by rw [HIZ.out, List.dropLast_concat, ← hbL]; exact hn1.out))
            clear hI
            go_wp2_with fail
            go_ret2
            exact ⟨_, by rw [HR.out]; rfl, hc1.trans hc, by rw [HR.out]; exact rdv_nil _ _⟩
        · have hend := Lib.hid (cinv_end hI.out (by rw [hDL.out]; omega))
          have HG0 := Lib.hid (parseG_some (s := s.data.toList) hl4.out (by rw [HIZ.out, List.dropLast_concat, ← hbL]; exact hend.out) (by rw [HIZ.out]; simp))
          have hv := hown.rdv.sub (O' := Never) (fun _ _ h => h.elim)
          have hvo := hown.rdv.sub (O' := Old w.heap.size) (fun k _ h => Nat.lt_of_lt_of_le h hc1.size)
          have hcw := hc1.trans hc
          obtain ⟨ea, ec, hq, -, -, -⟩ := rdv_slice hv
          clear hel hI hown
          go_wp2_with fail
          refine (refPatch_any Lc _ _ hv).mono ?_
          rintro e w5 ⟨rfl, hc5⟩
          have hv5 := hvo.never hc5
          have hw5 := hcw.trans hc5
          generalize (patchFault Lc).1 = at0
          by_cases hz : (patchFault Lc).2 = 0
          · have HR : Hid (parseG s.data.toList = (Lc, 0)) := by rw [Hid, HG0.out, if_neg (by rw [hz]; decide)]
            rw [hz]
            clear hz
            go_wp2_with fail
            go_ret2
            exact ⟨_, by rw [HR.out]; rfl, hw5, by rw [HR.out]; exact hv5⟩
          · have HR : Hid (parseG s.data.toList = ([], (patchFault Lc).2)) := by rw [Hid, HG0.out, if_pos hz]
            have tF : ((patchFault Lc).2 != 0) = true := by simpa using hz
            have tF2 : ((patchFault Lc).2 == 0) = false := by simpa using hz
            generalize (patchFault Lc).2 = fz at HR tF tF2
            clear hz
            go_wp2_with fail
            go_ret2
            exact ⟨_, by rw [HR.out]; rfl, hw5, by rw [HR.out]; exact rdv_nil _ _⟩
end Go.Proofs.YtjiaidchcldocaaGreatDoor
namespace Go.Proofs.YtjiaidchcldocaaGreatDoor
open Go.RowKit

set_option maxHeartbeats 2000000 in
set_option maxRecDepth 100000 in
theorem refMailFault_any (m : Mail) (v : Value) (w : World) (h : Rdv w Never v m.body) (hsz : MailSz m) (hid : m.ident.size ≤ 1000000000) :
    Calls Tryz.prog 52 #[mailV m v] w fun e w' => e = .returned (.int .i64 (mailFault m)) ∧ Chg Never w w' := by
  obtain ⟨a, cap, rfl, h1, h2, _⟩ := rdv_slice h
  unfold maxLen at h2
  obtain ⟨z1, z2, z3⟩ := hsz
  obtain ⟨hA, b0, b1, b2, b3⟩ := box1_mail w 31 m.sender m.subject m.ident (.slice a m.body.length cap) _ rfl
  cases w1 : wordB m.sender.data.toList with
  | false =>
    have HF := Lib.hid (mf_word1 w1)
    go_enter Tryz.func52, Tryz.ntmps52
    go_wp2_with (first | (go_at_call 48; refine (ref_word_any _ _ (by assumption)).mono ?_; rintro e w' ⟨rfl, rfl⟩) | (go_at_call 54; refine (find_one _ _ _ (by assumption)).mono ?_; rintro e w' ⟨rfl, rfl⟩))
    go_ret
    exact ⟨by rw [HF.out]; rfl, hA⟩
  | true =>
    cases w2 : wordB m.subject.data.toList with
    | false =>
      have HF := Lib.hid (mf_word2 w2)
      go_enter Tryz.func52, Tryz.ntmps52
      go_wp2_with (first | (go_at_call 48; refine (ref_word_any _ _ (by assumption)).mono ?_; rintro e w' ⟨rfl, rfl⟩) | (go_at_call 54; refine (find_one _ _ _ (by assumption)).mono ?_; rintro e w' ⟨rfl, rfl⟩))
      go_ret
      exact ⟨by rw [HF.out]; rfl, hA⟩
    | true =>
      cases w3 : wordB m.ident.data.toList with
      | false =>
        have HF := Lib.hid (mf_word3 w3)
        go_enter Tryz.func52, Tryz.ntmps52
        go_wp2_with (first | (go_at_call 48; refine (ref_word_any _ _ (by assumption)).mono ?_; rintro e w' ⟨rfl, rfl⟩) | (go_at_call 54; refine (find_one _ _ _ (by assumption)).mono ?_; rintro e w' ⟨rfl, rfl⟩))
        go_ret
        exact ⟨by rw [HF.out]; rfl, hA⟩
      | true =>
        by_cases c1 : 60 ∈ m.ident.data.toList
        · have t1 : decide (0 ≤ Lib.indexByte m.ident.data.toList 60) = true := by rw [indexByte_nonneg]; simpa using c1
          have HF := Lib.hid (mf_lt c1)
          clear c1
          go_enter Tryz.func52, Tryz.ntmps52
          go_wp2_with (first | (go_at_call 48; refine (ref_word_any _ _ (by assumption)).mono ?_; rintro e w' ⟨rfl, rfl⟩) | (go_at_call 54; refine (find_one _ _ _ (by assumption)).mono ?_; rintro e w' ⟨rfl, rfl⟩))
          go_ret
          exact ⟨by rw [HF.out]; rfl, hA⟩
        · have t1 : decide (0 ≤ Lib.indexByte m.ident.data.toList 60) = false := by rw [indexByte_nonneg]; simpa using c1
          by_cases c2 : 62 ∈ m.ident.data.toList
          · have t2 : decide (0 ≤ Lib.indexByte m.ident.data.toList 62) = true := by rw [indexByte_nonneg]; simpa using c2
            have HF := Lib.hid (mf_gt c2)
            clear c1 c2
            go_enter Tryz.func52, Tryz.ntmps52
            go_wp2_with (first | (go_at_call 48; refine (ref_word_any _ _ (by assumption)).mono ?_; rintro e w' ⟨rfl, rfl⟩) | (go_at_call 54; refine (find_one _ _ _ (by assumption)).mono ?_; rintro e w' ⟨rfl, rfl⟩))
            go_ret
            exact ⟨by rw [HF.out]; rfl, hA⟩
          · have t2 : decide (0 ≤ Lib.indexByte m.ident.data.toList 62) = false := by rw [indexByte_nonneg]; simpa using c2
            have HR := Lib.hid (mf_rest w1 w2 w3 c1 c2)
            clear c1 c2
            by_cases hb : 40000 < m.body.length
            · have HF : Hid (mailFault m = 3) := by rw [Hid, HR.out, if_pos hb]
              go_enter Tryz.func52, Tryz.ntmps52
              go_wp2_with (first | (go_at_call 48; refine (ref_word_any _ _ (by assumption)).mono ?_; rintro e w' ⟨rfl, rfl⟩) | (go_at_call 54; refine (find_one _ _ _ (by assumption)).mono ?_; rintro e w' ⟨rfl, rfl⟩))
              go_ret
              exact ⟨by rw [HF.out]; rfl, hA⟩
            · have HF : Hid (mailFault m = 0) := by rw [Hid, HR.out, if_neg hb]
              go_enter Tryz.func52, Tryz.ntmps52
              go_wp2_with (first | (go_at_call 48; refine (ref_word_any _ _ (by assumption)).mono ?_; rintro e w' ⟨rfl, rfl⟩) | (go_at_call 54; refine (find_one _ _ _ (by assumption)).mono ?_; rintro e w' ⟨rfl, rfl⟩))
              go_ret
              exact ⟨by rw [HF.out]; rfl, hA⟩

end Go.Proofs.YtjiaidchcldocaaGreatDoor
