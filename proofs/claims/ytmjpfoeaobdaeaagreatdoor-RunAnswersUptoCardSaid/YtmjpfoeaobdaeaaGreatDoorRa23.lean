/-
  PARTS: THE WALK of the document's PatchFault.; HUNKS DONE FROM THE LAST ONE ON, in plain Lean: it comes to the same as from the first one on.; THE WALKS of the document's Stands, replaced, StrictOf.
-/
import Derived.Test.YtmjpfoeaobdaeaaGreatDoorRa21
import Derived.Test.YtmjpfoeaobdaeaaGreatDoorRa22
import Derived.Test.YtmjpfoeaobdaeaaGreatDoorRa7
import Derived.BigQuiet
import Derived.Deep.Cut
import Derived.Test.YtmjpfoeaobdaeaaGreatDoorRa6
import Derived.Test.YtmjpfoeaobdaeaaGreatDoorRa11
set_option linter.unusedVariables false
set_option linter.unusedSimpArgs false
namespace Go.Proofs.YtmjpfoeaobdaeaaGreatDoor
open Go.RowKit

set_option maxHeartbeats 8000000 in
set_option maxRecDepth 100000 in
theorem refPatch_any (t : List Change) (v : Value) (w : World) (h : Rdv w Never v t) :
    Calls Tryz.prog 58 #[v] w fun e w' => e = .returned (.tuple #[.int .i64 (patchFault t).1, .int .i64 (patchFault t).2]) ∧ Chg Never w w' := by
  obtain ⟨a, cap, rfl, h1, h2, h3⟩ := rdv_slice h
  unfold maxLen at h2
  by_cases h8 : 16 < t.length
  · have HF : Hid (patchFault t = (0, 3)) := if_pos h8
    go_enter Tryz.func58, Tryz.ntmps58
    go_wp2_with fail
    go_ret2
    exact ⟨by rw [HF.out]; rfl, Chg.refl _ _⟩
  · have HF : Hid (patchFault t = patchGo 0 (prevC t 0) (t.drop 0)) := if_neg h8
    go_enter Tryz.func58, Tryz.ntmps58
    go_wp2_with fail
    go_loopw [4] (fun i wr => ∃ k : Nat, k ≤ t.length ∧ i = .int .i64 k ∧ Chg Never w wr ∧ Hid (patchFault t = patchGo k (prevC t k) (t.drop k))) (fun i _ => t.length - (intOf i).toNat)
    case atStart => exact ⟨0, Nat.zero_le _, rfl, Chg.refl _ _, HF.out⟩
    case round =>
      clear HF
      rename World => wr
      obtain ⟨k, hk, rfl, hc, hG⟩ := hrel
      by_cases hlt : k < t.length
      · obtain ⟨x, hx⟩ : ∃ x, t[k]? = some x := ⟨t[k], by simp [hlt]⟩
        obtain ⟨wh, pt, hs⟩ := x
        obtain ⟨b, off, lv, hbo, _, _, c0, c1, c2, hps, hlv⟩ := elems_change h3 hx
        subst hbo
        simp only at c0 c1 c2 hps hlv
        obtain ⟨la, lcap, rfl, _, _, hlh⟩ := rdv_slice hlv
        have c0 := hc.cellNever c0
        have c1 := hc.cellNever c1
        have c2 := hc.cellNever c2
        have HD := Lib.hid (drop_eq hx)
        have HPV := Lib.hid (prevC_succ hx)
        simp only at HPV
        obtain ⟨hA, d0, d1, d2⟩ := box1_change wr 100 wh pt (.slice la hs.length lcap) _ rfl
        clear hx
        by_cases r : wh < 1 ∨ 3 < wh
        · have HE : Hid (patchFault t = (k, 1)) := by rw [Hid, hG.out, patchGo_bad HD.out (by rw [cf_rng (c := ⟨wh, pt, hs⟩) r]; decide), cf_rng (c := ⟨wh, pt, hs⟩) r]
          clear hG
          rcases r with r | r
          · go_wp2_with fail
            go_ret2
            exact ⟨by rw [HE.out]; rfl, hc.trans hA⟩
          · have r0 : ¬ wh < 1 := by omega
            go_wp2_with fail
            go_ret2
            exact ⟨by rw [HE.out]; rfl, hc.trans hA⟩
        · have r0 : ¬ wh < 1 := by omega
          have r1 : ¬ 3 < wh := by omega
          by_cases z : pathFault pt = 0
          · have P0 := Lib.hid z
            by_cases y : (hunksFault hs).2 = 0
            · have H0 := Lib.hid y
              have HCF : Hid ((shapeB ⟨wh, pt, hs⟩ = true → changeFault ⟨wh, pt, hs⟩ = 0) ∧ (shapeB ⟨wh, pt, hs⟩ = false → changeFault ⟨wh, pt, hs⟩ = 2)) := ⟨fun s => cf_ok r z y s, fun s => cf_shape r z y s⟩
              clear r z y
              go_wp2_with fail
              generalize wr.alloc (.cells #[.int .i64 wh, .string pt, .slice la hs.length lcap] 100) = w3 at hA d0 d1 d2 ⊢
              have hc3 := hc.trans hA
              clear hA c0 c1 c2
              refine (refPath_any pt _).mono ?_
              rintro e w4 ⟨rfl, hc4⟩
              have d0 := hc4.cellNever d0
              have d1 := hc4.cellNever d1
              have d2 := hc4.cellNever d2
              have hcD := hc3.trans hc4
              clear hc3 hc4
              rw [P0.out]
              go_wp2_with fail
              refine (refHunks_any hs _ _ (hlv.never hcD)).mono ?_
              rintro e w5 ⟨rfl, hc5⟩
              have d0 := hc5.cellNever d0
              have d1 := hc5.cellNever d1
              have d2 := hc5.cellNever d2
              have hcD := hcD.trans hc5
              clear hc5
              rw [H0.out]
              rcases Nat.eq_zero_or_pos k with h0 | h0
              · subst h0
                have HO : Hid ((prevC t 0).any (fun p => leqB pt p) = false) := rfl
                by_cases k1 : wh = 1
                · subst k1
                  by_cases hs0 : hs = []
                  · subst hs0
                    have hsh : shapeB ⟨1, pt, []⟩ = false := shape_edit0 rfl rfl
                    have HE : Hid (patchFault t = (0, 2)) := by rw [Hid, hG.out]; exact pg_bad HD.out (.inr (HCF.out.2 hsh)) (.inl hsh) HCF.out.2
                    clear hG hsh
                    go_wp2_with fail
                    go_quiet (fail)
                    go_wp2_with fail
                    go_ret2
                    exact ⟨by rw [HE.out]; rfl, hcD.drewN _⟩
                  · have t0 : ((hs.length : Int) == 0) = false := beq_eq_false_iff_ne.2 (by have := List.length_pos_iff.2 hs0; omega)
                    have hsh : shapeB ⟨1, pt, hs⟩ = true := shape_edit rfl hs0
                    have HNX : Hid (patchFault t = patchGo (0 + 1) (prevC t (0 + 1)) (t.drop (0 + 1))) := by rw [Hid, HPV.out, hG.out]; exact patchGo_next HD.out (HCF.out.1 hsh) HO.out
                    clear hs0 hG hsh
                    go_wp2_with fail
                    go_quiet (fail)
                    generalize hqq : World.drewN w5 _ = w6
                    have hq : Chg Never w5 w6 := hqq ▸ (Chg.refl Never w5).drewN _
                    clear hqq
                    have hcE := hcD.trans hq
                    have d0 := hq.cellNever d0
                    have d1 := hq.cellNever d1
                    have d2 := hq.cellNever d2
                    clear hq hcD
                    go_wp2_with fail
                    go_roundw
                    case rel => exact ⟨0 + 1, by omega, by go_num, hcE, HNX.out⟩
                    case measure => simp [intOf] <;> omega
                · have t1 : (wh == 1) = false := by simp [k1]
                  have t1' : (wh != 1) = true := by simp [k1]
                  have k23 : wh = 2 ∨ wh = 3 := by omega
                  by_cases gm : (1 : Int) < hs.length
                  · have gm' := decide_eq_true gm
                    have hsh : shapeB ⟨wh, pt, hs⟩ = false := shape_many k23 (by show 2 ≤ hs.length; omega)
                    have HE : Hid (patchFault t = (0, 2)) := by rw [Hid, hG.out]; exact pg_bad HD.out (.inr (HCF.out.2 hsh)) (.inl hsh) HCF.out.2
                    clear hG hsh k1 k23
                    go_wp2_with fail
                    go_quiet (fail)
                    go_wp2_with fail
                    go_ret2
                    exact ⟨by rw [HE.out]; rfl, hcD.drewN _⟩
                  · have gm' := decide_eq_false gm
                    by_cases hs0 : hs = []
                    · subst hs0
                      have hsh : shapeB ⟨wh, pt, []⟩ = true := shape_none k23 rfl
                      have HNX : Hid (patchFault t = patchGo (0 + 1) (prevC t (0 + 1)) (t.drop (0 + 1))) := by rw [Hid, HPV.out, hG.out]; exact patchGo_next HD.out (HCF.out.1 hsh) HO.out
                      clear hG hsh k1 k23 gm gm'
                      go_wp2_with fail
                      go_quiet (fail)
                      generalize hqq : World.drewN w5 _ = w6
                      have hq : Chg Never w5 w6 := hqq ▸ (Chg.refl Never w5).drewN _
                      clear hqq
                      have hcE := hcD.trans hq
                      have d0 := hq.cellNever d0
                      have d1 := hq.cellNever d1
                      have d2 := hq.cellNever d2
                      clear hq hcD
                      go_wp2_with fail
                      go_roundw
                      case rel => exact ⟨0 + 1, by omega, by go_num, hcE, HNX.out⟩
                      case measure => simp [intOf] <;> omega
                    · obtain ⟨x, rfl⟩ : ∃ x, hs = [x] := by
                        match hs, hs0, gm with
                        | [x], _, _ => exact ⟨x, rfl⟩
                        | a :: b :: r, _, gm => exact absurd (by simp; omega) gm
                      clear gm gm' hs0
                      obtain ⟨ov, nv, mk⟩ := x
                      have HMK : Hid (scriptFault mk = 0) := hOk_mem _ _ _ (hunksFault_zero H0.out).2 ⟨ov, nv, mk⟩ (List.mem_singleton.2 rfl)
                      go_wp2_with fail
                      go_quiet (fail)
                      generalize hqq : World.drewN w5 _ = w6
                      have hq : Chg Never w5 w6 := hqq ▸ (Chg.refl Never w5).drewN _
                      clear hqq
                      have hcE := hcD.trans hq
                      have d0 := hq.cellNever d0
                      have d1 := hq.cellNever d1
                      have d2 := hq.cellNever d2
                      clear hq hcD
                      obtain ⟨xb, xo, xv, hxa, _, _, x0, x1, x2, hmv⟩ := elems_hunk hlh (i := 0) rfl
                      subst hxa
                      simp only [Nat.zero_mul, Nat.add_zero] at x0 x1 x2 hmv
                      have x0 := hcE.cellNever x0
                      have x1 := hcE.cellNever x1
                      have x2 := hcE.cellNever x2
                      obtain ⟨xa, xc, rfl, _, _, _⟩ := rdv_slice hmv
                      by_cases o : ov = 0
                      · subst o
                        have hBx := Blk3.new w6 146 (.int .i64 0) (.int .i64 nv) (.slice xa mk.length xc)
                        have hAx : Chg Never w6 (w6.alloc (.cells #[.int .i64 0, .int .i64 nv, .slice xa mk.length xc] 146)) := (Chg.refl Never w6).alloc _
                        rcases k23 with k2 | k3
                        · subst k2
                          clear t1 t1' k1
                          go_upto_region 18 with fail
                          generalize w6.alloc (.cells #[.int .i64 0, .int .i64 nv, .slice xa mk.length xc] 146) = w7 at hBx hAx ⊢
                          clear x0 x1 x2
                          obtain ⟨x0, _, x2⟩ := hBx.cell
                          have d0 := hAx.cellNever d0
                          go_wp2_with fail
                          refine (refOld_any mk _ _ (hmv.never (hcE.trans hAx)) HMK.out).mono ?_
                          rintro e w8 ⟨r8, rfl, hc8, hr8⟩
                          obtain ⟨ra, rc, rfl, _, _, _⟩ := rdv_slice hr8
                          have hcE := (hcE.trans hAx).trans hc8
                          have d0 := hc8.cellNever d0
                          have x0 := hc8.cellNever x0
                          have x2 := hc8.cellNever x2
                          clear hr8 hc8 hAx d1 d2
                          by_cases n0 : (those mk 43).length = 0
                          · have hsh : shapeB ⟨2, pt, [⟨0, nv, mk⟩]⟩ = true := by
                              rw [shape_one (c := ⟨2, pt, [⟨0, nv, mk⟩]⟩) (.inl rfl) rfl H0.out, decide_eq_true (show (⟨0, nv, mk⟩ : Hunk).old = 0 from rfl)]
                              exact decide_eq_true n0
                            have HNX : Hid (patchFault t = patchGo (0 + 1) (prevC t (0 + 1)) (t.drop (0 + 1))) := by rw [Hid, HPV.out, hG.out]; exact patchGo_next HD.out (HCF.out.1 hsh) HO.out
                            have n0' : ¬ (0 : Int) < (those mk 43).length := by omega
                            have n0'' := decide_eq_false n0'
                            have n0n : ¬ 0 < (those mk 43).length := by omega
                            clear hG hsh n0
                            go_wp2_with fail
                            go_roundw
                            case rel => exact ⟨0 + 1, by omega, by go_num, hcE, HNX.out⟩
                            case measure => simp [intOf] <;> omega
                          · have hsh : shapeB ⟨2, pt, [⟨0, nv, mk⟩]⟩ = false := by
                              rw [shape_one (c := ⟨2, pt, [⟨0, nv, mk⟩]⟩) (.inl rfl) rfl H0.out, decide_eq_true (show (⟨0, nv, mk⟩ : Hunk).old = 0 from rfl)]
                              exact decide_eq_false n0
                            have HE : Hid (patchFault t = (0, 2)) := by rw [Hid, hG.out]; exact pg_bad HD.out (.inr (HCF.out.2 hsh)) (.inl hsh) HCF.out.2
                            have n0' : (0 : Int) < (those mk 43).length := by omega
                            have n0'' := decide_eq_true n0'
                            have n0n : 0 < (those mk 43).length := by omega
                            clear hG hsh n0
                            go_wp2_with fail
                            go_ret2
                            exact ⟨by rw [HE.out]; rfl, hcE⟩
                        · subst k3
                          clear t1 t1' k1
                          go_upto_region 18 with fail
                          generalize w6.alloc (.cells #[.int .i64 0, .int .i64 nv, .slice xa mk.length xc] 146) = w7 at hBx hAx ⊢
                          clear x0 x1 x2
                          obtain ⟨x0, _, x2⟩ := hBx.cell
                          have d0 := hAx.cellNever d0
                          go_wp2_with fail
                          refine (refNew_any mk _ _ (hmv.never (hcE.trans hAx)) HMK.out).mono ?_
                          rintro e w8 ⟨r8, rfl, hc8, hr8⟩
                          obtain ⟨ra, rc, rfl, _, _, _⟩ := rdv_slice hr8
                          have hcE := (hcE.trans hAx).trans hc8
                          have d0 := hc8.cellNever d0
                          have x0 := hc8.cellNever x0
                          have x2 := hc8.cellNever x2
                          clear hr8 hc8 hAx d1 d2
                          by_cases n0 : (those mk 45).length = 0
                          · have hsh : shapeB ⟨3, pt, [⟨0, nv, mk⟩]⟩ = true := by
                              rw [shape_one (c := ⟨3, pt, [⟨0, nv, mk⟩]⟩) (.inr rfl) rfl H0.out, decide_eq_true (show (⟨0, nv, mk⟩ : Hunk).old = 0 from rfl)]
                              exact decide_eq_true n0
                            have HNX : Hid (patchFault t = patchGo (0 + 1) (prevC t (0 + 1)) (t.drop (0 + 1))) := by rw [Hid, HPV.out, hG.out]; exact patchGo_next HD.out (HCF.out.1 hsh) HO.out
                            have n0' : ¬ (0 : Int) < (those mk 45).length := by omega
                            have n0'' := decide_eq_false n0'
                            have n0n : ¬ 0 < (those mk 45).length := by omega
                            clear hG hsh n0
                            go_wp2_with fail
                            go_roundw
                            case rel => exact ⟨0 + 1, by omega, by go_num, hcE, HNX.out⟩
                            case measure => simp [intOf] <;> omega
                          · have hsh : shapeB ⟨3, pt, [⟨0, nv, mk⟩]⟩ = false := by
                              rw [shape_one (c := ⟨3, pt, [⟨0, nv, mk⟩]⟩) (.inr rfl) rfl H0.out, decide_eq_true (show (⟨0, nv, mk⟩ : Hunk).old = 0 from rfl)]
                              exact decide_eq_false n0
                            have HE : Hid (patchFault t = (0, 2)) := by rw [Hid, hG.out]; exact pg_bad HD.out (.inr (HCF.out.2 hsh)) (.inl hsh) HCF.out.2
                            have n0' : (0 : Int) < (those mk 45).length := by omega
                            have n0'' := decide_eq_true n0'
                            have n0n : 0 < (those mk 45).length := by omega
                            clear hG hsh n0
                            go_wp2_with fail
                            go_ret2
                            exact ⟨by rw [HE.out]; rfl, hcE⟩
                      · have o0 : (ov == 0) = false := by simp [o]
                        have hBx := Blk3.new w6 146 (.int .i64 ov) (.int .i64 nv) (.slice xa mk.length xc)
                        have hAx : Chg Never w6 (w6.alloc (.cells #[.int .i64 ov, .int .i64 nv, .slice xa mk.length xc] 146)) := (Chg.refl Never w6).alloc _
                        have o1 : (ov != 0) = true := by simp [o]
                        have hsh : shapeB ⟨wh, pt, [⟨ov, nv, mk⟩]⟩ = false := by rw [shape_one (c := ⟨wh, pt, [⟨ov, nv, mk⟩]⟩) k23 rfl H0.out, decide_eq_false o]; rfl
                        have HE : Hid (patchFault t = (0, 2)) := by rw [Hid, hG.out]; exact pg_bad HD.out (.inr (HCF.out.2 hsh)) (.inl hsh) HCF.out.2
                        clear hG hsh k1 k23 o
                        go_wp2_with fail
                        go_ret2
                        exact ⟨by rw [HE.out]; rfl, hcE.trans hAx⟩
              · obtain ⟨k', rfl⟩ : ∃ k', k = k' + 1 := ⟨k - 1, by omega⟩
                obtain ⟨y, hy⟩ : ∃ y, t[k']? = some y := ⟨t[k']'(by omega), by simp [show k' < t.length by omega]⟩
                obtain ⟨b', off', lv', hbo, _, _, _, y0, _, _, _⟩ := elems_change h3 hy
                simp only [Option.some.injEq, Addr.mk.injEq, and_true] at hbo
                obtain ⟨rfl, rfl⟩ := hbo
                have y0 := hcD.cellNever y0
                have HPY : Hid (prevC t (k' + 1) = some y.path) := prevC_succ hy
                have z1 : (k' : Int) + 1 - 1 = k' := by omega
                have z2 : decide ((0 : Int) < (k' : Int) + 1) = true := decide_eq_true (by omega)
                clear hy
                rcases less_tri pt y.path with g | g | g
                · have HO : Hid ((prevC t (k' + 1)).any (fun p => leqB pt p) = true) := by rw [Hid, HPY.out]; exact leqB_true.2 (less_asymm g)
                  have a1 : Op.bytesLess pt.toList y.path.toList = true := g
                  clear g
                  have HE : Hid (patchFault t = (k' + 1, 2)) := by
                    rw [Hid, hG.out]
                    refine pg_bad HD.out ?_ (.inr HO.out) HCF.out.2
                    cases hsb : shapeB ⟨wh, pt, hs⟩ with
                    | true => exact .inl (HCF.out.1 hsb)
                    | false => exact .inr (HCF.out.2 hsb)
                  clear hG
                  by_cases k1 : wh = 1
                  · subst k1
                    by_cases hs0 : hs = []
                    · subst hs0
                      go_wp2_with fail
                      go_quiet (fail)
                      go_wp2_with fail
                      go_ret2
                      exact ⟨by rw [HE.out]; rfl, hcD.drewN _⟩
                    · have t0 : ((hs.length : Int) == 0) = false := beq_eq_false_iff_ne.2 (by have := List.length_pos_iff.2 hs0; omega)
                      clear hs0
                      go_wp2_with fail
                      go_quiet (fail)
                      go_wp2_with fail
                      go_ret2
                      exact ⟨by rw [HE.out]; rfl, hcD.drewN _⟩
                  · have t1 : (wh == 1) = false := by simp [k1]
                    have t1' : (wh != 1) = true := by simp [k1]
                    clear k1
                    by_cases gm : (1 : Int) < hs.length
                    · have gm' := decide_eq_true gm
                      go_wp2_with fail
                      go_quiet (fail)
                      go_wp2_with fail
                      go_ret2
                      exact ⟨by rw [HE.out]; rfl, hcD.drewN _⟩
                    · have gm' := decide_eq_false gm
                      go_wp2_with fail
                      go_quiet (fail)
                      go_wp2_with fail
                      go_ret2
                      exact ⟨by rw [HE.out]; rfl, hcD.drewN _⟩
                · have HO : Hid ((prevC t (k' + 1)).any (fun p => leqB pt p) = true) := by rw [Hid, HPY.out]; exact leqB_true.2 (by rw [g]; exact less_irrefl _)
                  have a1 : Op.bytesLess pt.toList y.path.toList = false := by rw [g]; exact bl_irrefl _
                  have a2 : (pt.toList == y.path.toList) = true := by rw [g]; exact beq_self_eq_true _
                  clear g
                  have HE : Hid (patchFault t = (k' + 1, 2)) := by
                    rw [Hid, hG.out]
                    refine pg_bad HD.out ?_ (.inr HO.out) HCF.out.2
                    cases hsb : shapeB ⟨wh, pt, hs⟩ with
                    | true => exact .inl (HCF.out.1 hsb)
                    | false => exact .inr (HCF.out.2 hsb)
                  clear hG
                  by_cases k1 : wh = 1
                  · subst k1
                    by_cases hs0 : hs = []
                    · subst hs0
                      go_wp2_with fail
                      go_quiet (fail)
                      go_wp2_with fail
                      go_ret2
                      exact ⟨by rw [HE.out]; rfl, hcD.drewN _⟩
                    · have t0 : ((hs.length : Int) == 0) = false := beq_eq_false_iff_ne.2 (by have := List.length_pos_iff.2 hs0; omega)
                      clear hs0
                      go_wp2_with fail
                      go_quiet (fail)
                      go_wp2_with fail
                      go_ret2
                      exact ⟨by rw [HE.out]; rfl, hcD.drewN _⟩
                  · have t1 : (wh == 1) = false := by simp [k1]
                    have t1' : (wh != 1) = true := by simp [k1]
                    clear k1
                    by_cases gm : (1 : Int) < hs.length
                    · have gm' := decide_eq_true gm
                      go_wp2_with fail
                      go_quiet (fail)
                      go_wp2_with fail
                      go_ret2
                      exact ⟨by rw [HE.out]; rfl, hcD.drewN _⟩
                    · have gm' := decide_eq_false gm
                      go_wp2_with fail
                      go_quiet (fail)
                      go_wp2_with fail
                      go_ret2
                      exact ⟨by rw [HE.out]; rfl, hcD.drewN _⟩
                · have HO : Hid ((prevC t (k' + 1)).any (fun p => leqB pt p) = false) := by
                    rw [Hid, HPY.out, Option.any_some, Bool.eq_false_iff]
                    intro e
                    rw [leqB_true.1 e] at g; cases g
                  have a1 : Op.bytesLess pt.toList y.path.toList = false := less_asymm g
                  have a2 := str_beq_false (less_ne g).symm
                  clear g
                  by_cases k1 : wh = 1
                  · subst k1
                    by_cases hs0 : hs = []
                    · subst hs0
                      have hsh : shapeB ⟨1, pt, []⟩ = false := shape_edit0 rfl rfl
                      have HE : Hid (patchFault t = (k' + 1, 2)) := by rw [Hid, hG.out]; exact pg_bad HD.out (.inr (HCF.out.2 hsh)) (.inl hsh) HCF.out.2
                      clear hG hsh
                      go_wp2_with fail
                      go_quiet (fail)
                      go_wp2_with fail
                      go_ret2
                      exact ⟨by rw [HE.out]; rfl, hcD.drewN _⟩
                    · have t0 : ((hs.length : Int) == 0) = false := beq_eq_false_iff_ne.2 (by have := List.length_pos_iff.2 hs0; omega)
                      have hsh : shapeB ⟨1, pt, hs⟩ = true := shape_edit rfl hs0
                      have HNX : Hid (patchFault t = patchGo (k' + 1 + 1) (prevC t (k' + 1 + 1)) (t.drop (k' + 1 + 1))) := by rw [Hid, HPV.out, hG.out]; exact patchGo_next HD.out (HCF.out.1 hsh) HO.out
                      clear hs0 hG hsh
                      go_wp2_with fail
                      go_quiet (fail)
                      generalize hqq : World.drewN w5 _ = w6
                      have hq : Chg Never w5 w6 := hqq ▸ (Chg.refl Never w5).drewN _
                      clear hqq
                      have hcE := hcD.trans hq
                      have d0 := hq.cellNever d0
                      have d1 := hq.cellNever d1
                      have d2 := hq.cellNever d2
                      clear hq hcD
                      go_wp2_with fail
                      go_roundw
                      case rel => exact ⟨k' + 1 + 1, by omega, by go_num, hcE, HNX.out⟩
                      case measure => simp [intOf] <;> omega
                  · have t1 : (wh == 1) = false := by simp [k1]
                    have t1' : (wh != 1) = true := by simp [k1]
                    have k23 : wh = 2 ∨ wh = 3 := by omega
                    by_cases gm : (1 : Int) < hs.length
                    · have gm' := decide_eq_true gm
                      have hsh : shapeB ⟨wh, pt, hs⟩ = false := shape_many k23 (by show 2 ≤ hs.length; omega)
                      have HE : Hid (patchFault t = (k' + 1, 2)) := by rw [Hid, hG.out]; exact pg_bad HD.out (.inr (HCF.out.2 hsh)) (.inl hsh) HCF.out.2
                      clear hG hsh k1 k23
                      go_wp2_with fail
                      go_quiet (fail)
                      go_wp2_with fail
                      go_ret2
                      exact ⟨by rw [HE.out]; rfl, hcD.drewN _⟩
                    · have gm' := decide_eq_false gm
                      by_cases hs0 : hs = []
                      · subst hs0
                        have hsh : shapeB ⟨wh, pt, []⟩ = true := shape_none k23 rfl
                        have HNX : Hid (patchFault t = patchGo (k' + 1 + 1) (prevC t (k' + 1 + 1)) (t.drop (k' + 1 + 1))) := by rw [Hid, HPV.out, hG.out]; exact patchGo_next HD.out (HCF.out.1 hsh) HO.out
                        clear hG hsh k1 k23 gm gm'
                        go_wp2_with fail
                        go_quiet (fail)
                        generalize hqq : World.drewN w5 _ = w6
                        have hq : Chg Never w5 w6 := hqq ▸ (Chg.refl Never w5).drewN _
                        clear hqq
                        have hcE := hcD.trans hq
                        have d0 := hq.cellNever d0
                        have d1 := hq.cellNever d1
                        have d2 := hq.cellNever d2
                        clear hq hcD
                        go_wp2_with fail
                        go_roundw
                        case rel => exact ⟨k' + 1 + 1, by omega, by go_num, hcE, HNX.out⟩
                        case measure => simp [intOf] <;> omega
                      · obtain ⟨x, rfl⟩ : ∃ x, hs = [x] := by
                          match hs, hs0, gm with
                          | [x], _, _ => exact ⟨x, rfl⟩
                          | a :: b :: r, _, gm => exact absurd (by simp; omega) gm
                        clear gm gm' hs0
                        obtain ⟨ov, nv, mk⟩ := x
                        have HMK : Hid (scriptFault mk = 0) := hOk_mem _ _ _ (hunksFault_zero H0.out).2 ⟨ov, nv, mk⟩ (List.mem_singleton.2 rfl)
                        go_wp2_with fail
                        go_quiet (fail)
                        generalize hqq : World.drewN w5 _ = w6
                        have hq : Chg Never w5 w6 := hqq ▸ (Chg.refl Never w5).drewN _
                        clear hqq
                        have hcE := hcD.trans hq
                        have d0 := hq.cellNever d0
                        have d1 := hq.cellNever d1
                        have d2 := hq.cellNever d2
                        clear hq hcD
                        obtain ⟨xb, xo, xv, hxa, _, _, x0, x1, x2, hmv⟩ := elems_hunk hlh (i := 0) rfl
                        subst hxa
                        simp only [Nat.zero_mul, Nat.add_zero] at x0 x1 x2 hmv
                        have x0 := hcE.cellNever x0
                        have x1 := hcE.cellNever x1
                        have x2 := hcE.cellNever x2
                        obtain ⟨xa, xc, rfl, _, _, _⟩ := rdv_slice hmv
                        by_cases o : ov = 0
                        · subst o
                          have hBx := Blk3.new w6 146 (.int .i64 0) (.int .i64 nv) (.slice xa mk.length xc)
                          have hAx : Chg Never w6 (w6.alloc (.cells #[.int .i64 0, .int .i64 nv, .slice xa mk.length xc] 146)) := (Chg.refl Never w6).alloc _
                          rcases k23 with k2 | k3
                          · subst k2
                            clear t1 t1' k1
                            go_upto_region 18 with fail
                            generalize w6.alloc (.cells #[.int .i64 0, .int .i64 nv, .slice xa mk.length xc] 146) = w7 at hBx hAx ⊢
                            clear x0 x1 x2
                            obtain ⟨x0, _, x2⟩ := hBx.cell
                            have d0 := hAx.cellNever d0
                            go_wp2_with fail
                            refine (refOld_any mk _ _ (hmv.never (hcE.trans hAx)) HMK.out).mono ?_
                            rintro e w8 ⟨r8, rfl, hc8, hr8⟩
                            obtain ⟨ra, rc, rfl, _, _, _⟩ := rdv_slice hr8
                            have hcE := (hcE.trans hAx).trans hc8
                            have d0 := hc8.cellNever d0
                            have x0 := hc8.cellNever x0
                            have x2 := hc8.cellNever x2
                            clear hr8 hc8 hAx d1 d2
                            by_cases n0 : (those mk 43).length = 0
                            · have hsh : shapeB ⟨2, pt, [⟨0, nv, mk⟩]⟩ = true := by
                                rw [shape_one (c := ⟨2, pt, [⟨0, nv, mk⟩]⟩) (.inl rfl) rfl H0.out, decide_eq_true (show (⟨0, nv, mk⟩ : Hunk).old = 0 from rfl)]
                                exact decide_eq_true n0
                              have HNX : Hid (patchFault t = patchGo (k' + 1 + 1) (prevC t (k' + 1 + 1)) (t.drop (k' + 1 + 1))) := by rw [Hid, HPV.out, hG.out]; exact patchGo_next HD.out (HCF.out.1 hsh) HO.out
                              have n0' : ¬ (0 : Int) < (those mk 43).length := by omega
                              have n0'' := decide_eq_false n0'
                              have n0n : ¬ 0 < (those mk 43).length := by omega
                              clear hG hsh n0
                              go_wp2_with fail
                              go_roundw
                              case rel => exact ⟨k' + 1 + 1, by omega, by go_num, hcE, HNX.out⟩
                              case measure => simp [intOf] <;> omega
                            · have hsh : shapeB ⟨2, pt, [⟨0, nv, mk⟩]⟩ = false := by
                                rw [shape_one (c := ⟨2, pt, [⟨0, nv, mk⟩]⟩) (.inl rfl) rfl H0.out, decide_eq_true (show (⟨0, nv, mk⟩ : Hunk).old = 0 from rfl)]
                                exact decide_eq_false n0
                              have HE : Hid (patchFault t = (k' + 1, 2)) := by rw [Hid, hG.out]; exact pg_bad HD.out (.inr (HCF.out.2 hsh)) (.inl hsh) HCF.out.2
                              have n0' : (0 : Int) < (those mk 43).length := by omega
                              have n0'' := decide_eq_true n0'
                              have n0n : 0 < (those mk 43).length := by omega
                              clear hG hsh n0
                              go_wp2_with fail
                              go_ret2
                              exact ⟨by rw [HE.out]; rfl, hcE⟩
                          · subst k3
                            clear t1 t1' k1
                            go_upto_region 18 with fail
                            generalize w6.alloc (.cells #[.int .i64 0, .int .i64 nv, .slice xa mk.length xc] 146) = w7 at hBx hAx ⊢
                            clear x0 x1 x2
                            obtain ⟨x0, _, x2⟩ := hBx.cell
                            have d0 := hAx.cellNever d0
                            go_wp2_with fail
                            refine (refNew_any mk _ _ (hmv.never (hcE.trans hAx)) HMK.out).mono ?_
                            rintro e w8 ⟨r8, rfl, hc8, hr8⟩
                            obtain ⟨ra, rc, rfl, _, _, _⟩ := rdv_slice hr8
                            have hcE := (hcE.trans hAx).trans hc8
                            have d0 := hc8.cellNever d0
                            have x0 := hc8.cellNever x0
                            have x2 := hc8.cellNever x2
                            clear hr8 hc8 hAx d1 d2
                            by_cases n0 : (those mk 45).length = 0
                            · have hsh : shapeB ⟨3, pt, [⟨0, nv, mk⟩]⟩ = true := by
                                rw [shape_one (c := ⟨3, pt, [⟨0, nv, mk⟩]⟩) (.inr rfl) rfl H0.out, decide_eq_true (show (⟨0, nv, mk⟩ : Hunk).old = 0 from rfl)]
                                exact decide_eq_true n0
                              have HNX : Hid (patchFault t = patchGo (k' + 1 + 1) (prevC t (k' + 1 + 1)) (t.drop (k' + 1 + 1))) := by rw [Hid, HPV.out, hG.out]; exact patchGo_next HD.out (HCF.out.1 hsh) HO.out
                              have n0' : ¬ (0 : Int) < (those mk 45).length := by omega
                              have n0'' := decide_eq_false n0'
                              have n0n : ¬ 0 < (those mk 45).length := by omega
                              clear hG hsh n0
                              go_wp2_with fail
                              go_roundw
                              case rel => exact ⟨k' + 1 + 1, by omega, by go_num, hcE, HNX.out⟩
                              case measure => simp [intOf] <;> omega
                            · have hsh : shapeB ⟨3, pt, [⟨0, nv, mk⟩]⟩ = false := by
                                rw [shape_one (c := ⟨3, pt, [⟨0, nv, mk⟩]⟩) (.inr rfl) rfl H0.out, decide_eq_true (show (⟨0, nv, mk⟩ : Hunk).old = 0 from rfl)]
                                exact decide_eq_false n0
                              have HE : Hid (patchFault t = (k' + 1, 2)) := by rw [Hid, hG.out]; exact pg_bad HD.out (.inr (HCF.out.2 hsh)) (.inl hsh) HCF.out.2
                              have n0' : (0 : Int) < (those mk 45).length := by omega
                              have n0'' := decide_eq_true n0'
                              have n0n : 0 < (those mk 45).length := by omega
                              clear hG hsh n0
                              go_wp2_with fail
                              go_ret2
                              exact ⟨by rw [HE.out]; rfl, hcE⟩
                        · have o0 : (ov == 0) = false := by simp [o]
                          have hBx := Blk3.new w6 146 (.int .i64 ov) (.int .i64 nv) (.slice xa mk.length xc)
                          have hAx : Chg Never w6 (w6.alloc (.cells #[.int .i64 ov, .int .i64 nv, .slice xa mk.length xc] 146)) := (Chg.refl Never w6).alloc _
                          have o1 : (ov != 0) = true := by simp [o]
                          have hsh : shapeB ⟨wh, pt, [⟨ov, nv, mk⟩]⟩ = false := by rw [shape_one (c := ⟨wh, pt, [⟨ov, nv, mk⟩]⟩) k23 rfl H0.out, decide_eq_false o]; rfl
                          have HE : Hid (patchFault t = (k' + 1, 2)) := by rw [Hid, hG.out]; exact pg_bad HD.out (.inr (HCF.out.2 hsh)) (.inl hsh) HCF.out.2
                          clear hG hsh k1 k23 o
                          go_wp2_with fail
                          go_ret2
                          exact ⟨by rw [HE.out]; rfl, hcE.trans hAx⟩
            · have HE : Hid (patchFault t = (k, (hunksFault hs).2)) := by rw [Hid, hG.out, patchGo_bad HD.out (by rw [cf_hunks (c := ⟨wh, pt, hs⟩) r z y]; exact y), cf_hunks (c := ⟨wh, pt, hs⟩) r z y]
              have y0 : ((hunksFault hs).2 == 0) = false := by simp [y]
              have y1 : ((hunksFault hs).2 != 0) = true := by simp [y]
              clear r z y hG
              go_wp2_with fail
              generalize wr.alloc (.cells #[.int .i64 wh, .string pt, .slice la hs.length lcap] 100) = w3 at hA d0 d1 d2 ⊢
              have hc3 := hc.trans hA
              clear hA c0 c1 c2
              refine (refPath_any pt _).mono ?_
              rintro e w4 ⟨rfl, hc4⟩
              have d0 := hc4.cellNever d0
              have d1 := hc4.cellNever d1
              have d2 := hc4.cellNever d2
              have hcD := hc3.trans hc4
              clear hc3 hc4
              rw [P0.out]
              go_wp2_with fail
              refine (refHunks_any hs _ _ (hlv.never hcD)).mono ?_
              rintro e w5 ⟨rfl, hc5⟩
              have d0 := hc5.cellNever d0
              have d1 := hc5.cellNever d1
              have d2 := hc5.cellNever d2
              have hcD := hcD.trans hc5
              clear hc5
              go_wp2_with fail
              go_ret2
              exact ⟨by rw [HE.out]; rfl, hcD⟩
          · have HE : Hid (patchFault t = (k, pathFault pt)) := by rw [Hid, hG.out, patchGo_bad HD.out (by rw [cf_path (c := ⟨wh, pt, hs⟩) r z]; exact z), cf_path (c := ⟨wh, pt, hs⟩) r z]
            have z0 : (pathFault pt == 0) = false := by simp [z]
            have z1 : (pathFault pt != 0) = true := by simp [z]
            clear r z hG
            go_wp2_with fail
            generalize wr.alloc (.cells #[.int .i64 wh, .string pt, .slice la hs.length lcap] 100) = w3 at hA d0 d1 d2 ⊢
            have hc3 := hc.trans hA
            clear hA c0 c1 c2
            refine (refPath_any pt _).mono ?_
            rintro e w4 ⟨rfl, hc4⟩
            have d0 := hc4.cellNever d0
            have d1 := hc4.cellNever d1
            have d2 := hc4.cellNever d2
            have hcD := hc3.trans hc4
            clear hc3 hc4
            go_wp2_with fail
            go_ret2
            exact ⟨by rw [HE.out]; rfl, hcD⟩
      · obtain rfl : k = t.length := by omega
        have e := hG.out
        rw [patchGo_end] at e
        have HE := Lib.hid e
        clear hG e
        go_wp2_with fail
        go_ret2
        exact ⟨by rw [HE.out]; rfl, hc⟩
end Go.Proofs.YtmjpfoeaobdaeaaGreatDoor
namespace Go.Proofs.YtmjpfoeaobdaeaaGreatDoor

def repl (a : List ByteArray) (at_ n : Nat) (l : List ByteArray) : List ByteArray := a.take at_ ++ l ++ a.drop (at_ + n)
def backDo (a : List ByteArray) (r : List Hunk) : List ByteArray := r.foldr (fun h acc => repl acc h.old.toNat (oldN h.marks) (newOf h.marks)) a
theorem backDo_cons (a : List ByteArray) (h : Hunk) (r : List Hunk) : backDo a (h :: r) = repl (backDo a r) h.old.toNat (oldN h.marks) (newOf h.marks) := rfl
def firstClash (a : List ByteArray) : Nat → List Hunk → Option Nat
  | _, [] => none
  | i, h :: r => if standsB a h.old (oldOf h.marks) then firstClash a (i + 1) r else some i
theorem stands_bound {a : List ByteArray} {h : Hunk} (hs : standsB a h.old (oldOf h.marks) = true) : 0 ≤ h.old ∧ h.old.toNat + oldN h.marks ≤ a.length := by
  obtain ⟨s1, s2, _⟩ := stands_split hs
  exact ⟨s1, s2⟩
theorem back_take (a : List ByteArray) : ∀ (r : List Hunk) (i fr : Nat) (more : Int), fr ≤ a.length → hOk fr more r → firstClash a i r = none → (backDo a r).take fr = a.take fr ∧ fr ≤ (backDo a r).length
  | [], _, fr, _, h1, _, _ => ⟨rfl, h1⟩
  | h :: r, i, fr, more, h1, hk, hf => by
    rw [firstClash] at hf
    by_cases hs : standsB a h.old (oldOf h.marks) = true
    · rw [if_pos hs] at hf
      obtain ⟨b0, b1⟩ := stands_bound hs
      obtain ⟨_, _, _, _, _, _, z7, _⟩ := oneFault_zero hk.1
      obtain ⟨o, ho⟩ := Int.eq_ofNat_of_zero_le b0
      rw [ho, Int.toNat_natCast] at b1
      have hfo : fr ≤ o := by omega
      obtain ⟨i1, i2⟩ := back_take a r (i + 1) (o + oldN h.marks) (more + newN h.marks - oldN h.marks) b1 (by have := hk.2; rw [ho] at this; push_cast; exact this) hf
      rw [backDo_cons, ho, Int.toNat_natCast, repl]
      have e1 : (backDo a r).take fr = a.take fr := by
        have := congrArg (List.take fr) i1
        rwa [List.take_take, List.take_take, Nat.min_eq_left (by omega)] at this
      constructor
      · rw [List.append_assoc, List.take_append_of_le_length (by rw [List.length_take]; omega), List.take_take, Nat.min_eq_left hfo, e1]
      · rw [List.length_append, List.length_append, List.length_take]; omega
    · rw [if_neg hs] at hf; cases hf
theorem strictGo_back (a : List ByteArray) : ∀ (r : List Hunk) (i fr : Nat) (out : List ByteArray) (more : Int), fr ≤ a.length → hOk fr more r →
    strictGo a i fr out r = match firstClash a i r with
      | some k => ([], k, 6)
      | none => if 60 < (out ++ (backDo a r).drop fr).length then ([], 0, 3) else (out ++ (backDo a r).drop fr, 0, 0)
  | [], i, fr, out, more, h1, hk => by rw [firstClash, strictGo]; rfl
  | h :: r, i, fr, out, more, h1, hk => by
    rw [firstClash, strictGo]
    by_cases hs : standsB a h.old (oldOf h.marks) = true
    · rw [if_pos hs, if_pos hs]
      obtain ⟨b0, b1⟩ := stands_bound hs
      obtain ⟨_, _, _, _, _, _, z7, _⟩ := oneFault_zero hk.1
      obtain ⟨o, ho⟩ := Int.eq_ofNat_of_zero_le b0
      rw [ho, Int.toNat_natCast] at b1
      have hfo : fr ≤ o := by omega
      have hk2 : hOk ((o + oldN h.marks : Nat) : Int) (more + newN h.marks - oldN h.marks) r := by have := hk.2; rw [ho] at this; push_cast; exact this
      rw [ho, Int.toNat_natCast, strictGo_back a r (i + 1) (o + oldN h.marks) _ _ b1 hk2]
      cases hf : firstClash a (i + 1) r with
      | some k => rfl
      | none =>
        obtain ⟨i1, i2⟩ := back_take a r (i + 1) (o + oldN h.marks) _ b1 hk2 hf
        have e : out ++ (a.drop fr).take (o - fr) ++ newOf h.marks ++ (backDo a r).drop (o + oldN h.marks) = out ++ (backDo a (h :: r)).drop fr := by
          rw [backDo_cons, ho, Int.toNat_natCast, repl]
          have e1 : (backDo a r).take o = a.take o := by
            have := congrArg (List.take o) i1
            rwa [List.take_take, List.take_take, Nat.min_eq_left (by omega)] at this
          rw [e1, List.append_assoc, List.append_assoc, List.append_assoc, List.drop_append_of_le_length (by rw [List.length_take]; omega), List.drop_take]
        simp only [e]
    · rw [if_neg hs, if_neg hs]
theorem repl_length (a : List ByteArray) (at_ n : Nat) (l : List ByteArray) : (repl a at_ n l).length ≤ a.length + l.length := by
  unfold repl
  rw [List.length_append, List.length_append, List.length_take, List.length_drop]
  omega
theorem backDo_length (a : List ByteArray) : ∀ (r : List Hunk), (∀ x ∈ r, newN x.marks ≤ 120) → (backDo a r).length ≤ a.length + 120 * r.length
  | [], _ => by simp [backDo]
  | h :: r, hn => by
    have h1 := backDo_length a r (fun x hx => hn x (List.mem_cons_of_mem _ hx))
    have h2 := hn h (List.mem_cons_self ..)
    have h3 := repl_length (backDo a r) h.old.toNat (oldN h.marks) (newOf h.marks)
    rw [backDo_cons]
    have e : newN h.marks = (newOf h.marks).length := rfl
    simp only [List.length_cons]
    omega
theorem firstClash_none (a : List ByteArray) : ∀ (r : List Hunk) (i : Nat), firstClash a i r = none → ∀ x ∈ r, standsB a x.old (oldOf x.marks) = true
  | [], _, _, x, hx => by simp at hx
  | h :: r, i, hf, x, hx => by
    rw [firstClash] at hf
    by_cases hs : standsB a h.old (oldOf h.marks) = true
    · rw [if_pos hs] at hf
      rcases List.mem_cons.1 hx with rfl | hx
      · exact hs
      · exact firstClash_none a r (i + 1) hf x hx
    · rw [if_neg hs] at hf; cases hf
theorem hOk_drop : ∀ (l : List Hunk) (fin more : Int) (k : Nat), hOk fin more l → ∃ fin' more', hOk fin' more' (l.drop k) ∧ (0 ≤ fin → 0 ≤ fin')
  | [], fin, more, k, h => ⟨fin, more, by simpa using h, fun h => h⟩
  | x :: r, fin, more, 0, h => ⟨fin, more, h, fun h => h⟩
  | x :: r, fin, more, k + 1, h => by
    obtain ⟨_, _, z3, _⟩ := oneFault_zero h.1
    obtain ⟨f, m, h1, h2⟩ := hOk_drop r _ _ k h.2
    exact ⟨f, m, h1, fun _ => h2 (by omega)⟩
theorem hOk_old : ∀ (l : List Hunk) (fin more : Int), hOk fin more l → ∀ h ∈ l, 0 ≤ h.old ∧ h.old ≤ 60
  | [], _, _, _, h, hh => by simp at hh
  | x :: r, fin, more, hk, h, hh => by
    rcases List.mem_cons.1 hh with rfl | hh
    · obtain ⟨_, _, z3, _, z5, _⟩ := oneFault_zero hk.1
      exact ⟨z3, by omega⟩
    · exact hOk_old r _ _ hk.2 h hh
end Go.Proofs.YtmjpfoeaobdaeaaGreatDoor
namespace Go.Proofs.YtmjpfoeaobdaeaaGreatDoor
open Go.RowKit

theorem standsB_iff {a l : List ByteArray} {n : Nat} (h : n + l.length ≤ a.length) : standsB a n l = decide ((a.drop n).take l.length = l) := by
  unfold standsB
  have e1 : decide ((0 : Int) ≤ n) = true := by simp
  have e2 : decide ((n : Int) + l.length ≤ a.length) = true := by simp; omega
  rw [e1, e2]; simp
theorem stands_all {a l : List ByteArray} {n : Nat} (h : n + l.length ≤ a.length) (hf : ∀ k, k < l.length → a[n + k]? = l[k]?) : standsB a n l = true := by
  rw [standsB_iff h, decide_eq_true_eq]
  apply List.ext_getElem?
  intro k
  rw [List.getElem?_take]
  by_cases hk : k < l.length
  · rw [if_pos hk, List.getElem?_drop, hf k hk]
  · rw [if_neg hk, List.getElem?_eq_none (by omega)]
theorem stands_not {a l : List ByteArray} {n k : Nat} (h : n + l.length ≤ a.length) {x y : ByteArray} (hx : a[n + k]? = some x) (hy : l[k]? = some y) (hne : x ≠ y) : standsB a n l = false := by
  rw [standsB_iff h, decide_eq_false_iff_not]
  intro e
  have := congrArg (fun q => q[k]?) e
  simp only [List.getElem?_take, List.getElem?_drop] at this
  rw [if_pos (List.getElem?_eq_some_iff.1 hy).1, hx, hy] at this
  injection this with this
  exact hne this

set_option maxHeartbeats 1000000 in
set_option maxRecDepth 100000 in
theorem refStands_any (a l : List ByteArray) (at_ : Int) (v u : Value) (w : World) (ha : Rdv w Never v a) (hl : Rdv w Never u l) (h0 : -1000000 ≤ at_) (h1 : at_ ≤ 1000000) (hla : a.length ≤ 1000000) (hll : l.length ≤ 1000000) :
    Calls Tryz.prog 93 #[v, .int .i64 at_, u] w fun e w' => e = .returned (.bool (standsB a at_ l)) ∧ Chg Never w w' := by
  obtain ⟨b, cap, rfl, _, hcap, ha3⟩ := rdv_slice ha
  obtain ⟨c, cap', rfl, _, hcap', hl3⟩ := rdv_slice hl
  unfold maxLen at hcap hcap'
  by_cases c1 : at_ < 0
  · have E : standsB a at_ l = false := by unfold standsB; simp; omega
    rw [E]
    go_enter Tryz.func93, Tryz.ntmps93
    go_wp2_with fail
    go_ret
    exact ⟨rfl, Chg.refl _ _⟩
  · obtain ⟨n, rfl⟩ := Int.eq_ofNat_of_zero_le (show 0 ≤ at_ by omega)
    by_cases c2 : a.length < n + l.length
    · have E : standsB a n l = false := by unfold standsB; simp; omega
      rw [E]
      have t1 : decide ((a.length : Int) - l.length < n) = true := by simp; omega
      go_enter Tryz.func93, Tryz.ntmps93
      go_wp2_with fail
      go_ret
      exact ⟨rfl, Chg.refl _ _⟩
    · have hle : n + l.length ≤ a.length := by omega
      have t1 : decide ((a.length : Int) - l.length < n) = false := by simp; omega
      clear c2
      go_enter Tryz.func93, Tryz.ntmps93
      go_wp2_with fail
      go_loopw [7] (fun i wr => ∃ k : Nat, k ≤ l.length ∧ i = .int .i64 k ∧ Chg Never w wr ∧ Hid (∀ q, q < k → a[n + q]? = l[q]?)) (fun i _ => l.length - (intOf i).toNat)
      case atStart => exact ⟨0, Nat.zero_le _, rfl, Chg.refl _ _, fun q h => absurd h (Nat.not_lt_zero q)⟩
      case round =>
        obtain ⟨k, hk, rfl, hc, hf⟩ := hrel
        by_cases hlt : k < l.length
        · obtain ⟨y, hy⟩ : ∃ y, l[k]? = some y := ⟨l[k], by simp [hlt]⟩
          obtain ⟨x, hx⟩ : ∃ x, a[n + k]? = some x := ⟨a[n + k]'(by omega), by simp [show n + k < a.length by omega]⟩
          obtain ⟨b1, o1, rfl, _, _, hcx, hxs⟩ := elems_str ha3 hx
          obtain ⟨b2, o2, rfl, _, _, hcy, hys⟩ := elems_str hl3 hy
          have hcx := hc.cellNever hcx
          have hcy := hc.cellNever hcy
          have HX := Lib.hid hx
          have HY := Lib.hid hy
          have e1 : IntKind.i64.wrap ((n : Int) + k) = (n : Int) + k := IntWalk.i64_in _ (by omega)
          have e2 : (0 : Int) ≤ (n : Int) + k := by omega
          have e3 : (n : Int) + k < a.length := by omega
          have e4 : ((n : Int) + k).toNat = n + k := by omega
          have e5 : (k : Int) < l.length := by omega
          clear ha3 hl3 ha hl hx hy
          by_cases hxy : x = y
          · subst hxy
            go_wp2_with fail
            go_quiet (fail)
            go_wp2_with fail
            clear e1 e2 e3 e4 e5
            go_roundw
            case rel => exact ⟨k + 1, by omega, by go_num, hc.drewN _, fun q hq => by
              by_cases e : q = k
              · subst e; rw [HX.out, HY.out]
              · exact hf.out q (by omega)⟩
            case measure => simp [intOf] <;> omega
          · have hne := str_beq_false hxy
            have HN := Lib.hid (stands_not hle HX.out HY.out hxy)
            go_wp2_with fail
            go_quiet (fail)
            go_wp2_with fail
            go_ret
            exact ⟨by rw [HN.out]; rfl, hc.drewN _⟩
        · have HN := Lib.hid (stands_all hle (fun q hq => hf.out q (by omega)))
          go_wp2_with fail
          go_ret
          exact ⟨by rw [HN.out]; rfl, hc⟩

set_option maxHeartbeats 1000000 in
set_option maxRecDepth 100000 in
theorem replaced_any (a l : List ByteArray) (at_ n : Nat) (v u : Value) (w : World) (ha : Rdv w Never v a) (hl : Rdv w Never u l) (h0 : at_ + n ≤ a.length) (hla : a.length ≤ 1000000) (hll : l.length ≤ 1000000) :
    Calls Tryz.prog 94 #[v, .int .i64 at_, .int .i64 n, u] w fun e w' => ∃ r, e = .returned r ∧ Chg Never w w' ∧ Rdv w' (Old w.heap.size) r (repl a at_ n l) := by
  obtain ⟨b, cap, rfl, _, hcap, _⟩ := rdv_slice ha
  obtain ⟨c, cap', rfl, _, _, _⟩ := rdv_slice hl
  unfold maxLen at hcap
  obtain ⟨sb1, u0, u1, hrunH, hsub1⟩ := slice_gen (P := Tryz.prog) (t := 25) (by kernel_rfl) size_str ha 0 at_ (Nat.zero_le _) (by omega)
  have hrunH := fun (wx : World) => hrunH at_ wx rfl rfl
  clear u0 u1
  rw [Nat.sub_zero, Nat.sub_zero] at hrunH hsub1
  rw [List.drop_zero] at hsub1
  obtain ⟨sb2, u0, hrunL, u1, hsub2⟩ := slice_gen (P := Tryz.prog) (t := 25) (by kernel_rfl) size_str ha (at_ + n) a.length h0 (Nat.le_refl _)
  have hrunL := fun (wx : World) => hrunL ((at_ : Int) + n) wx (by push_cast; rfl) rfl
  clear u0 u1
  rw [List.take_of_length_le (by rw [List.length_drop]; omega)] at hsub2
  have hl1 : (a.take at_).length = at_ := by rw [List.length_take]; omega
  have hl2 : (a.drop (at_ + n)).length = a.length - (at_ + n) := List.length_drop
  have hle1 : ([] : List ByteArray).length + (a.take at_).length ≤ 1000000000 := by rw [hl1]; simp; omega
  have hle2 : ([] ++ a.take at_).length + l.length ≤ 1000000000 := by rw [List.nil_append, hl1]; omega
  have hle3 : ([] ++ a.take at_ ++ l).length + (a.drop (at_ + n)).length ≤ 1000000000 := by rw [List.nil_append, List.length_append, hl1, hl2]; omega
  go_enter Tryz.func94, Tryz.ntmps94
  go_wp2_with (first
    | (at_builtin; refine wpList_many (by rfl) _ _ 25 (by rfl) elemOk_str (O := Old w.heap.size) (l := []) (m := a.take at_) (by rfl) (by rfl) (own_nil _ _ _) hsub1 (rd_str_any _ _ _) (fun _ h => h) hle1 ?_; intro v1 w1 hw1 hd1; obtain ⟨s1, n1, c1, rfl⟩ := own_isSlice hw1; have hd1' : Chg Never w w1 := hd1.mono (fun q _ h => by cases h); have hl1' := hl.never hd1'; have hs1' := hsub2.never hd1'; have hol := old_lt hd1'; clear hd1 hsub1)
    | (at_builtin; refine wpList_many (by rfl) _ _ 25 (by rfl) elemOk_str (O := Old w.heap.size) (l := [] ++ a.take at_) (m := l) (by rfl) (by rfl) hw1 hl1' (rd_str_any _ _ _) hol hle2 ?_; intro v2 w2 hw2 hd2; obtain ⟨s2, n2, c2, rfl⟩ := own_isSlice hw2; have hd2' := own_step hd1' hw1 hd2; have hs2' := hsub2.never hd2'; have hol2 := old_lt hd2'; clear hd2 hl1' hs1' hol hw1 hd1')
    | (at_builtin; refine wpList_many (by rfl) _ _ 25 (by rfl) elemOk_str (O := Old w.heap.size) (l := [] ++ a.take at_ ++ l) (m := a.drop (at_ + n)) (by rfl) (by rfl) hw2 hs2' (rd_str_any _ _ _) hol2 hle3 ?_; intro v3 w3 hw3 hd3; obtain ⟨s3, n3, c3, rfl⟩ := own_isSlice hw3; have hd3' := own_step hd2' hw2 hd3; clear hd3 hs2' hol2 hw2 hd2'))
  go_ret
  exact ⟨_, rfl, hd3', hw3.rdv⟩
end Go.Proofs.YtmjpfoeaobdaeaaGreatDoor
