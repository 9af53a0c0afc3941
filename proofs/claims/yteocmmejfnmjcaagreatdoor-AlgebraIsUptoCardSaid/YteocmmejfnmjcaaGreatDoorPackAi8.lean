/-
  PARTS: THE WALK of the document's PatchFault.; THE WALKS OF LAYER 4: slices.Clone, hunk.Copy.; append OF A WHOLE SLICE whose elements lie in blocks of their own, to one of the call's own. No program in sight.; MORE ON ROWS THAT append HAS BUILT, whose elements lie elsewhere.; ROWS OF A SLICE OF ITS OWN, element by element: what copy, clear, append do to one. No function of the program in sight.; THE WALKS of the document's DropOf, PutOf.
-/
import Derived.Test.YteocmmejfnmjcaaGreatDoorPackAi6
import Derived.Test.YteocmmejfnmjcaaGreatDoorPackAi7
import Derived.Test.YteocmmejfnmjcaaGreatDoorPackAi4
import Derived.BigQuiet
import Derived.Test.YteocmmejfnmjcaaGreatDoorPackAi5
import Derived.Lib.AppendZerosOnto
namespace Go.Proofs.YteocmmejfnmjcaaGreatDoor
open Go.RowKit

set_option maxHeartbeats 8000000 in
set_option maxRecDepth 100000 in
theorem refPatch_any (t : List Change) (v : Value) (w : World) (h : Rdv w Never v t) :
    Calls Tryz.prog 5 #[v] w fun e w' => e = .returned (.tuple #[.int .i64 (patchFault t).1, .int .i64 (patchFault t).2]) ∧ Chg Never w w' := by
  obtain ⟨a, cap, rfl, h1, h2, h3⟩ := rdv_slice h
  unfold maxLen at h2
  by_cases h8 : 16 < t.length
  · have HF : Hid (patchFault t = (0, 3)) := if_pos h8
    go_enter Tryz.func5, Tryz.ntmps5
    go_wp2_with fail
    go_ret2
    exact ⟨by rw [HF.out]; rfl, Chg.refl _ _⟩
  · have HF : Hid (patchFault t = patchGo 0 (prevC t 0) (t.drop 0)) := if_neg h8
    go_enter Tryz.func5, Tryz.ntmps5
    go_wp2_with fail
    go_loopw [4] (fun i wr => ∃ k : Nat, k ≤ t.length ∧ i = .int .i64 k ∧ Chg Never w wr ∧ Hid (patchFault t = patchGo k (prevC t k) (t.drop k))) (fun i _ => t.length - (intOf i).toNat)
    case atStart => exact ⟨0, Nat.zero_le _, rfl, Chg.refl _ _, HF.out⟩
    case round =>
      clear HF
      rename World => wr
      obtain ⟨k, hk, rfl, hc, hG⟩ := hrel
      by_cases hlt : k < t.length
      · obtain ⟨x, hx⟩ : ∃ x, t[k]? = some x := ⟨t[k], by simp [hlt]⟩
        obtain ⟨wh, pt, hs⟩ := x
        obtain ⟨b, off, lv, hbo, _, _, c0, c1, c2, hps, hlv⟩ := elems_change h3 hx
        subst hbo
        simp only at c0 c1 c2 hps hlv
        obtain ⟨la, lcap, rfl, _, _, hlh⟩ := rdv_slice hlv
        have c0 := hc.cellNever c0
        have c1 := hc.cellNever c1
        have c2 := hc.cellNever c2
        have HD := Lib.hid (drop_eq hx)
        have HPV := Lib.hid (prevC_succ hx)
        simp only at HPV
        obtain ⟨hA, d0, d1, d2⟩ := box1_change wr 36 wh pt (.slice la hs.length lcap) _ rfl
        clear hx
        by_cases r : wh < 1 ∨ 3 < wh
        · have HE : Hid (patchFault t = (k, 1)) := by rw [Hid, hG.out, patchGo_bad HD.out (by rw [cf_rng (c := ⟨wh, pt, hs⟩) r]; decide), cf_rng (c := ⟨wh, pt, hs⟩) r]
          clear hG
          rcases r with r | r
          · go_wp2_with fail
            go_ret2
            exact ⟨by rw [HE.out]; rfl, hc.trans hA⟩
          · have r0 : ¬ wh < 1 := by omega
            go_wp2_with fail
            go_ret2
            exact ⟨by rw [HE.out]; rfl, hc.trans hA⟩
        · have r0 : ¬ wh < 1 := by omega
          have r1 : ¬ 3 < wh := by omega
          by_cases z : pathFault pt = 0
          · have P0 := Lib.hid z
            by_cases y : (hunksFault hs).2 = 0
            · have H0 := Lib.hid y
              have HCF : Hid ((shapeB ⟨wh, pt, hs⟩ = true → changeFault ⟨wh, pt, hs⟩ = 0) ∧ (shapeB ⟨wh, pt, hs⟩ = false → changeFault ⟨wh, pt, hs⟩ = 2)) := ⟨fun s => cf_ok r z y s, fun s => cf_shape r z y s⟩
              clear r z y
              go_wp2_with fail
              generalize wr.alloc (.cells #[.int .i64 wh, .string pt, .slice la hs.length lcap] 36) = w3 at hA d0 d1 d2 ⊢
              have hc3 := hc.trans hA
              clear hA c0 c1 c2
              refine (refPath_any pt _).mono ?_
              rintro e w4 ⟨rfl, hc4⟩
              have d0 := hc4.cellNever d0
              have d1 := hc4.cellNever d1
              have d2 := hc4.cellNever d2
              have hcD := hc3.trans hc4
              clear hc3 hc4
              rw [P0.out]
              go_wp2_with fail
              refine (refHunks_any hs _ _ (hlv.never hcD)).mono ?_
              rintro e w5 ⟨rfl, hc5⟩
              have d0 := hc5.cellNever d0
              have d1 := hc5.cellNever d1
              have d2 := hc5.cellNever d2
              have hcD := hcD.trans hc5
              clear hc5
              rw [H0.out]
              rcases Nat.eq_zero_or_pos k with h0 | h0
              · subst h0
                have HO : Hid ((prevC t 0).any (fun p => leqB pt p) = false) := rfl
                by_cases k1 : wh = 1
                · subst k1
                  by_cases hs0 : hs = []
                  · subst hs0
                    have hsh : shapeB ⟨1, pt, []⟩ = false := shape_edit0 rfl rfl
                    have HE : Hid (patchFault t = (0, 2)) := by rw [Hid, hG.out]; exact pg_bad HD.out (.inr (HCF.out.2 hsh)) (.inl hsh) HCF.out.2
                    clear hG hsh
                    go_wp2_with fail
                    go_quiet (fail)
                    go_wp2_with fail
                    go_ret2
                    exact ⟨by rw [HE.out]; rfl, hcD.drewN _⟩
                  · have t0 : ((hs.length : Int) == 0) = false := beq_eq_false_iff_ne.2 (by have := List.length_pos_iff.2 hs0; omega)
                    have hsh : shapeB ⟨1, pt, hs⟩ = true := shape_edit rfl hs0
                    have HNX : Hid (patchFault t = patchGo (0 + 1) (prevC t (0 + 1)) (t.drop (0 + 1))) := by rw [Hid, HPV.out, hG.out]; exact patchGo_next HD.out (HCF.out.1 hsh) HO.out
                    clear hs0 hG hsh
                    go_wp2_with fail
                    go_quiet (fail)
                    generalize hqq : World.drewN w5 _ = w6
                    have hq : Chg Never w5 w6 := hqq ▸ (Chg.refl Never w5).drewN _
                    clear hqq
                    have hcE := hcD.trans hq
                    have d0 := hq.cellNever d0
                    have d1 := hq.cellNever d1
                    have d2 := hq.cellNever d2
                    clear hq hcD
                    go_wp2_with fail
                    go_roundw
                    case rel => exact ⟨0 + 1, by omega, by go_num, hcE, HNX.out⟩
                    case measure => simp [intOf] <;> omega
                · have t1 : (wh == 1) = false := by simp [k1]
                  have t1' : (wh != 1) = true := by simp [k1]
                  have k23 : wh = 2 ∨ wh = 3 := by omega
                  by_cases gm : (1 : Int) < hs.length
                  · have gm' := decide_eq_true gm
                    have hsh : shapeB ⟨wh, pt, hs⟩ = false := shape_many k23 (by show 2 ≤ hs.length; omega)
                    have HE : Hid (patchFault t = (0, 2)) := by rw [Hid, hG.out]; exact pg_bad HD.out (.inr (HCF.out.2 hsh)) (.inl hsh) HCF.out.2
                    clear hG hsh k1 k23
                    go_wp2_with fail
                    go_quiet (fail)
                    go_wp2_with fail
                    go_ret2
                    exact ⟨by rw [HE.out]; rfl, hcD.drewN _⟩
                  · have gm' := decide_eq_false gm
                    by_cases hs0 : hs = []
                    · subst hs0
                      have hsh : shapeB ⟨wh, pt, []⟩ = true := shape_none k23 rfl
                      have HNX : Hid (patchFault t = patchGo (0 + 1) (prevC t (0 + 1)) (t.drop (0 + 1))) := by rw [Hid, HPV.out, hG.out]; exact patchGo_next HD.out (HCF.out.1 hsh) HO.out
                      clear hG hsh k1 k23 gm gm'
                      go_wp2_with fail
                      go_quiet (fail)
                      generalize hqq : World.drewN w5 _ = w6
                      have hq : Chg Never w5 w6 := hqq ▸ (Chg.refl Never w5).drewN _
                      clear hqq
                      have hcE := hcD.trans hq
                      have d0 := hq.cellNever d0
                      have d1 := hq.cellNever d1
                      have d2 := hq.cellNever d2
                      clear hq hcD
                      go_wp2_with fail
                      go_roundw
                      case rel => exact ⟨0 + 1, by omega, by go_num, hcE, HNX.out⟩
                      case measure => simp [intOf] <;> omega
                    · obtain ⟨x, rfl⟩ : ∃ x, hs = [x] := by
                        match hs, hs0, gm with
                        | [x], _, _ => exact ⟨x, rfl⟩
                        | a :: b :: r, _, gm => exact absurd (by simp; omega) gm
                      clear gm gm' hs0
                      obtain ⟨ov, nv, mk⟩ := x
                      have HMK : Hid (scriptFault mk = 0) := hOk_mem _ _ _ (hunksFault_zero H0.out).2 ⟨ov, nv, mk⟩ (List.mem_singleton.2 rfl)
                      go_wp2_with fail
                      go_quiet (fail)
                      generalize hqq : World.drewN w5 _ = w6
                      have hq : Chg Never w5 w6 := hqq ▸ (Chg.refl Never w5).drewN _
                      clear hqq
                      have hcE := hcD.trans hq
                      have d0 := hq.cellNever d0
                      have d1 := hq.cellNever d1
                      have d2 := hq.cellNever d2
                      clear hq hcD
                      obtain ⟨xb, xo, xv, hxa, _, _, x0, x1, x2, hmv⟩ := elems_hunk hlh (i := 0) rfl
                      subst hxa
                      simp only [Nat.zero_mul, Nat.add_zero] at x0 x1 x2 hmv
                      have x0 := hcE.cellNever x0
                      have x1 := hcE.cellNever x1
                      have x2 := hcE.cellNever x2
                      obtain ⟨xa, xc, rfl, _, _, _⟩ := rdv_slice hmv
                      by_cases o : ov = 0
                      · subst o
                        have hBx := Blk3.new w6 61 (.int .i64 0) (.int .i64 nv) (.slice xa mk.length xc)
                        have hAx : Chg Never w6 (w6.alloc (.cells #[.int .i64 0, .int .i64 nv, .slice xa mk.length xc] 61)) := (Chg.refl Never w6).alloc _
                        rcases k23 with k2 | k3
                        · subst k2
                          clear t1 t1' k1
                          go_upto_region 18 with fail
                          generalize w6.alloc (.cells #[.int .i64 0, .int .i64 nv, .slice xa mk.length xc] 61) = w7 at hBx hAx ⊢
                          clear x0 x1 x2
                          obtain ⟨x0, _, x2⟩ := hBx.cell
                          have d0 := hAx.cellNever d0
                          go_wp2_with fail
                          refine (refOld_any mk _ _ (hmv.never (hcE.trans hAx)) HMK.out).mono ?_
                          rintro e w8 ⟨r8, rfl, hc8, hr8⟩
                          obtain ⟨ra, rc, rfl, _, _, _⟩ := rdv_slice hr8
                          have hcE := (hcE.trans hAx).trans hc8
                          have d0 := hc8.cellNever d0
                          have x0 := hc8.cellNever x0
                          have x2 := hc8.cellNever x2
                          clear hr8 hc8 hAx d1 d2
                          by_cases n0 : (those mk 43).length = 0
                          · have hsh : shapeB ⟨2, pt, [⟨0, nv, mk⟩]⟩ = true := by
                              rw [shape_one (c := ⟨2, pt, [⟨0, nv, mk⟩]⟩) (.inl rfl) rfl H0.out, decide_eq_true (show (⟨0, nv, mk⟩ : Hunk).old = 0 from rfl)]
                              exact decide_eq_true n0
                            have HNX : Hid (patchFault t = patchGo (0 + 1) (prevC t (0 + 1)) (t.drop (0 + 1))) := by rw [Hid, HPV.out, hG.out]; exact patchGo_next HD.out (HCF.out.1 hsh) HO.out
                            have n0' : ¬ (0 : Int) < (those mk 43).length := by omega
                            have n0'' := decide_eq_false n0'
                            have n0n : ¬ 0 < (those mk 43).length := by omega
                            clear hG hsh n0
                            go_wp2_with fail
                            go_roundw
                            case rel => exact ⟨0 + 1, by omega, by go_num, hcE, HNX.out⟩
                            case measure => simp [intOf] <;> omega
                          · have hsh : shapeB ⟨2, pt, [⟨0, nv, mk⟩]⟩ = false := by
                              rw [shape_one (c := ⟨2, pt, [⟨0, nv, mk⟩]⟩) (.inl rfl) rfl H0.out, decide_eq_true (show (⟨0, nv, mk⟩ : Hunk).old = 0 from rfl)]
                              exact decide_eq_false n0
                            have HE : Hid (patchFault t = (0, 2)) := by rw [Hid, hG.out]; exact pg_bad HD.out (.inr (HCF.out.2 hsh)) (.inl hsh) HCF.out.2
                            have n0' : (0 : Int) < (those mk 43).length := by omega
                            have n0'' := decide_eq_true n0'
                            have n0n : 0 < (those mk 43).length := by omega
                            clear hG hsh n0
                            go_wp2_with fail
                            go_ret2
                            exact ⟨by rw [HE.out]; rfl, hcE⟩
                        · subst k3
                          clear t1 t1' k1
                          go_upto_region 18 with fail
                          generalize w6.alloc (.cells #[.int .i64 0, .int .i64 nv, .slice xa mk.length xc] 61) = w7 at hBx hAx ⊢
                          clear x0 x1 x2
                          obtain ⟨x0, _, x2⟩ := hBx.cell
                          have d0 := hAx.cellNever d0
                          go_wp2_with fail
                          refine (refNew_any mk _ _ (hmv.never (hcE.trans hAx)) HMK.out).mono ?_
                          rintro e w8 ⟨r8, rfl, hc8, hr8⟩
                          obtain ⟨ra, rc, rfl, _, _, _⟩ := rdv_slice hr8
                          have hcE := (hcE.trans hAx).trans hc8
                          have d0 := hc8.cellNever d0
                          have x0 := hc8.cellNever x0
                          have x2 := hc8.cellNever x2
                          clear hr8 hc8 hAx d1 d2
                          by_cases n0 : (those mk 45).length = 0
                          · have hsh : shapeB ⟨3, pt, [⟨0, nv, mk⟩]⟩ = true := by
                              rw [shape_one (c := ⟨3, pt, [⟨0, nv, mk⟩]⟩) (.inr rfl) rfl H0.out, decide_eq_true (show (⟨0, nv, mk⟩ : Hunk).old = 0 from rfl)]
                              exact decide_eq_true n0
                            have HNX : Hid (patchFault t = patchGo (0 + 1) (prevC t (0 + 1)) (t.drop (0 + 1))) := by rw [Hid, HPV.out, hG.out]; exact patchGo_next HD.out (HCF.out.1 hsh) HO.out
                            have n0' : ¬ (0 : Int) < (those mk 45).length := by omega
                            have n0'' := decide_eq_false n0'
                            have n0n : ¬ 0 < (those mk 45).length := by omega
                            clear hG hsh n0
                            go_wp2_with fail
                            go_roundw
                            case rel => exact ⟨0 + 1, by omega, by go_num, hcE, HNX.out⟩
                            case measure => simp [intOf] <;> omega
                          · have hsh : shapeB ⟨3, pt, [⟨0, nv, mk⟩]⟩ = false := by
                              rw [shape_one (c := ⟨3, pt, [⟨0, nv, mk⟩]⟩) (.inr rfl) rfl H0.out, decide_eq_true (show (⟨0, nv, mk⟩ : Hunk).old = 0 from rfl)]
                              exact decide_eq_false n0
                            have HE : Hid (patchFault t = (0, 2)) := by rw [Hid, hG.out]; exact pg_bad HD.out (.inr (HCF.out.2 hsh)) (.inl hsh) HCF.out.2
                            have n0' : (0 : Int) < (those mk 45).length := by omega
                            have n0'' := decide_eq_true n0'
                            have n0n : 0 < (those mk 45).length := by omega
                            clear hG hsh n0
                            go_wp2_with fail
                            go_ret2
                            exact ⟨by rw [HE.out]; rfl, hcE⟩
                      · have o0 : (ov == 0) = false := by simp [o]
                        have hBx := Blk3.new w6 61 (.int .i64 ov) (.int .i64 nv) (.slice xa mk.length xc)
                        have hAx : Chg Never w6 (w6.alloc (.cells #[.int .i64 ov, .int .i64 nv, .slice xa mk.length xc] 61)) := (Chg.refl Never w6).alloc _
                        have o1 : (ov != 0) = true := by simp [o]
                        have hsh : shapeB ⟨wh, pt, [⟨ov, nv, mk⟩]⟩ = false := by rw [shape_one (c := ⟨wh, pt, [⟨ov, nv, mk⟩]⟩) k23 rfl H0.out, decide_eq_false o]; rfl
                        have HE : Hid (patchFault t = (0, 2)) := by rw [Hid, hG.out]; exact pg_bad HD.out (.inr (HCF.out.2 hsh)) (.inl hsh) HCF.out.2
                        clear hG hsh k1 k23 o
                        go_wp2_with fail
                        go_ret2
                        exact ⟨by rw [HE.out]; rfl, hcE.trans hAx⟩
              · obtain ⟨k', rfl⟩ : ∃ k', k = k' + 1 := ⟨k - 1, by omega⟩
                obtain ⟨y, hy⟩ : ∃ y, t[k']? = some y := ⟨t[k']'(by omega), by simp [show k' < t.length by omega]⟩
                obtain ⟨b', off', lv', hbo, _, _, _, y0, _, _, _⟩ := elems_change h3 hy
                simp only [Option.some.injEq, Addr.mk.injEq, and_true] at hbo
                obtain ⟨rfl, rfl⟩ := hbo
                have y0 := hcD.cellNever y0
                have HPY : Hid (prevC t (k' + 1) = some y.path) := prevC_succ hy
                have z1 : (k' : Int) + 1 - 1 = k' := by omega
                have z2 : decide ((0 : Int) < (k' : Int) + 1) = true := decide_eq_true (by omega)
                clear hy
                rcases less_tri pt y.path with g | g | g
                · have HO : Hid ((prevC t (k' + 1)).any (fun p => leqB pt p) = true) := by rw [Hid, HPY.out]; exact leqB_true.2 (less_asymm g)
                  have a1 : Op.bytesLess pt.toList y.path.toList = true := g
                  clear g
                  have HE : Hid (patchFault t = (k' + 1, 2)) := by
                    rw [Hid, hG.out]
                    refine pg_bad HD.out ?_ (.inr HO.out) HCF.out.2
                    cases hsb : shapeB ⟨wh, pt, hs⟩ with
                    | true => exact .inl (HCF.out.1 hsb)
                    | false => exact .inr (HCF.out.2 hsb)
                  clear hG
                  by_cases k1 : wh = 1
                  · subst k1
                    by_cases hs0 : hs = []
                    · subst hs0
                      go_wp2_with fail
                      go_quiet (fail)
                      go_wp2_with fail
                      go_ret2
                      exact ⟨by rw [HE.out]; rfl, hcD.drewN _⟩
                    · have t0 : ((hs.length : Int) == 0) = false := beq_eq_false_iff_ne.2 (by have := List.length_pos_iff.2 hs0; omega)
                      clear hs0
                      go_wp2_with fail
                      go_quiet (fail)
                      go_wp2_with fail
                      go_ret2
                      exact ⟨by rw [HE.out]; rfl, hcD.drewN _⟩
                  · have t1 : (wh == 1) = false := by simp [k1]
                    have t1' : (wh != 1) = true := by simp [k1]
                    clear k1
                    by_cases gm : (1 : Int) < hs.length
                    · have gm' := decide_eq_true gm
                      go_wp2_with fail
                      go_quiet (fail)
                      go_wp2_with fail
                      go_ret2
                      exact ⟨by rw [HE.out]; rfl, hcD.drewN _⟩
                    · have gm' := decide_eq_false gm
                      go_wp2_with fail
                      go_quiet (fail)
                      go_wp2_with fail
                      go_ret2
                      exact ⟨by rw [HE.out]; rfl, hcD.drewN _⟩
                · have HO : Hid ((prevC t (k' + 1)).any (fun p => leqB pt p) = true) := by rw [Hid, HPY.out]; exact leqB_true.2 (by rw [g]; exact less_irrefl _)
                  have a1 : Op.bytesLess pt.toList y.path.toList = false := by rw [g]; exact bl_irrefl _
                  have a2 : (pt.toList == y.path.toList) = true := by rw [g]; exact beq_self_eq_true _
                  clear g
                  have HE : Hid (patchFault t = (k' + 1, 2)) := by
                    rw [Hid, hG.out]
                    refine pg_bad HD.out ?_ (.inr HO.out) HCF.out.2
                    cases hsb : shapeB ⟨wh, pt, hs⟩ with
                    | true => exact .inl (HCF.out.1 hsb)
                    | false => exact .inr (HCF.out.2 hsb)
                  clear hG
                  by_cases k1 : wh = 1
                  · subst k1
                    by_cases hs0 : hs = []
                    · subst hs0
                      go_wp2_with fail
                      go_quiet (fail)
                      go_wp2_with fail
                      go_ret2
                      exact ⟨by rw [HE.out]; rfl, hcD.drewN _⟩
                    · have t0 : ((hs.length : Int) == 0) = false := beq_eq_false_iff_ne.2 (by have := List.length_pos_iff.2 hs0; omega)
                      clear hs0
                      go_wp2_with fail
                      go_quiet (fail)
                      go_wp2_with fail
                      go_ret2
                      exact ⟨by rw [HE.out]; rfl, hcD.drewN _⟩
                  · have t1 : (wh == 1) = false := by simp [k1]
                    have t1' : (wh != 1) = true := by simp [k1]
                    clear k1
                    by_cases gm : (1 : Int) < hs.length
                    · have gm' := decide_eq_true gm
                      go_wp2_with fail
                      go_quiet (fail)
                      go_wp2_with fail
                      go_ret2
                      exact ⟨by rw [HE.out]; rfl, hcD.drewN _⟩
                    · have gm' := decide_eq_false gm
                      go_wp2_with fail
                      go_quiet (fail)
                      go_wp2_with fail
                      go_ret2
                      exact ⟨by rw [HE.out]; rfl, hcD.drewN _⟩
                · have HO : Hid ((prevC t (k' + 1)).any (fun p => leqB pt p) = false) := by
                    rw [Hid, HPY.out, Option.any_some, Bool.eq_false_iff]
                    intro e
                    rw [leqB_true.1 e] at g; cases g
                  have a1 : Op.bytesLess pt.toList y.path.toList = false := less_asymm g
                  have a2 := str_beq_false (less_ne g).symm
                  clear g
                  by_cases k1 : wh = 1
                  · subst k1
                    by_cases hs0 : hs = []
                    · subst hs0
                      have hsh : shapeB ⟨1, pt, []⟩ = false := shape_edit0 rfl rfl
                      have HE : Hid (patchFault t = (k' + 1, 2)) := by rw [Hid, hG.out]; exact pg_bad HD.out (.inr (HCF.out.2 hsh)) (.inl hsh) HCF.out.2
                      clear hG hsh
                      go_wp2_with fail
                      go_quiet (fail)
                      go_wp2_with fail
                      go_ret2
                      exact ⟨by rw [HE.out]; rfl, hcD.drewN _⟩
                    · have t0 : ((hs.length : Int) == 0) = false := beq_eq_false_iff_ne.2 (by have := List.length_pos_iff.2 hs0; omega)
                      have hsh : shapeB ⟨1, pt, hs⟩ = true := shape_edit rfl hs0
                      have HNX : Hid (patchFault t = patchGo (k' + 1 + 1) (prevC t (k' + 1 + 1)) (t.drop (k' + 1 + 1))) := by rw [Hid, HPV.out, hG.out]; exact patchGo_next HD.out (HCF.out.1 hsh) HO.out
                      clear hs0 hG hsh
                      go_wp2_with fail
                      go_quiet (fail)
                      generalize hqq : World.drewN w5 _ = w6
                      have hq : Chg Never w5 w6 := hqq ▸ (Chg.refl Never w5).drewN _
                      clear hqq
                      have hcE := hcD.trans hq
                      have d0 := hq.cellNever d0
                      have d1 := hq.cellNever d1
                      have d2 := hq.cellNever d2
                      clear hq hcD
                      go_wp2_with fail
                      go_roundw
                      case rel => exact ⟨k' + 1 + 1, by omega, by go_num, hcE, HNX.out⟩
                      case measure => simp [intOf] <;> omega
                  · have t1 : (wh == 1) = false := by simp [k1]
                    have t1' : (wh != 1) = true := by simp [k1]
                    have k23 : wh = 2 ∨ wh = 3 := by omega
                    by_cases gm : (1 : Int) < hs.length
                    · have gm' := decide_eq_true gm
                      have hsh : shapeB ⟨wh, pt, hs⟩ = false := shape_many k23 (by show 2 ≤ hs.length; omega)
                      have HE : Hid (patchFault t = (k' + 1, 2)) := by rw [Hid, hG.out]; exact pg_bad HD.out (.inr (HCF.out.2 hsh)) (.inl hsh) HCF.out.2
                      clear hG hsh k1 k23
                      go_wp2_with fail
                      go_quiet (fail)
                      go_wp2_with fail
                      go_ret2
                      exact ⟨by rw [HE.out]; rfl, hcD.drewN _⟩
                    · have gm' := decide_eq_false gm
                      by_cases hs0 : hs = []
                      · subst hs0
                        have hsh : shapeB ⟨wh, pt, []⟩ = true := shape_none k23 rfl
                        have HNX : Hid (patchFault t = patchGo (k' + 1 + 1) (prevC t (k' + 1 + 1)) (t.drop (k' + 1 + 1))) := by rw [Hid, HPV.out, hG.out]; exact patchGo_next HD.out (HCF.out.1 hsh) HO.out
                        clear hG hsh k1 k23 gm gm'
                        go_wp2_with fail
                        go_quiet (fail)
                        generalize hqq : World.drewN w5 _ = w6
                        have hq : Chg Never w5 w6 := hqq ▸ (Chg.refl Never w5).drewN _
                        clear hqq
                        have hcE := hcD.trans hq
                        have d0 := hq.cellNever d0
                        have d1 := hq.cellNever d1
                        have d2 := hq.cellNever d2
                        clear hq hcD
                        go_wp2_with fail
                        go_roundw
                        case rel => exact ⟨k' + 1 + 1, by omega, by go_num, hcE, HNX.out⟩
                        case measure => simp [intOf] <;> omega
                      · obtain ⟨x, rfl⟩ : ∃ x, hs = [x] := by
                          match hs, hs0, gm with
                          | [x], _, _ => exact ⟨x, rfl⟩
                          | a :: b :: r, _, gm => exact absurd (by simp; omega) gm
                        clear gm gm' hs0
                        obtain ⟨ov, nv, mk⟩ := x
                        have HMK : Hid (scriptFault mk = 0) := hOk_mem _ _ _ (hunksFault_zero H0.out).2 ⟨ov, nv, mk⟩ (List.mem_singleton.2 rfl)
                        go_wp2_with fail
                        go_quiet (fail)
                        generalize hqq : World.drewN w5 _ = w6
                        have hq : Chg Never w5 w6 := hqq ▸ (Chg.refl Never w5).drewN _
                        clear hqq
                        have hcE := hcD.trans hq
                        have d0 := hq.cellNever d0
                        have d1 := hq.cellNever d1
                        have d2 := hq.cellNever d2
                        clear hq hcD
                        obtain ⟨xb, xo, xv, hxa, _, _, x0, x1, x2, hmv⟩ := elems_hunk hlh (i := 0) rfl
                        subst hxa
                        simp only [Nat.zero_mul, Nat.add_zero] at x0 x1 x2 hmv
                        have x0 := hcE.cellNever x0
                        have x1 := hcE.cellNever x1
                        have x2 := hcE.cellNever x2
                        obtain ⟨xa, xc, rfl, _, _, _⟩ := rdv_slice hmv
                        by_cases o : ov = 0
                        · subst o
                          have hBx := Blk3.new w6 61 (.int .i64 0) (.int .i64 nv) (.slice xa mk.length xc)
                          have hAx : Chg Never w6 (w6.alloc (.cells #[.int .i64 0, .int .i64 nv, .slice xa mk.length xc] 61)) := (Chg.refl Never w6).alloc _
                          rcases k23 with k2 | k3
                          · subst k2
                            clear t1 t1' k1
                            go_upto_region 18 with fail
                            generalize w6.alloc (.cells #[.int .i64 0, .int .i64 nv, .slice xa mk.length xc] 61) = w7 at hBx hAx ⊢
                            clear x0 x1 x2
                            obtain ⟨x0, _, x2⟩ := hBx.cell
                            have d0 := hAx.cellNever d0
                            go_wp2_with fail
                            refine (refOld_any mk _ _ (hmv.never (hcE.trans hAx)) HMK.out).mono ?_
                            rintro e w8 ⟨r8, rfl, hc8, hr8⟩
                            obtain ⟨ra, rc, rfl, _, _, _⟩ := rdv_slice hr8
                            have hcE := (hcE.trans hAx).trans hc8
                            have d0 := hc8.cellNever d0
                            have x0 := hc8.cellNever x0
                            have x2 := hc8.cellNever x2
                            clear hr8 hc8 hAx d1 d2
                            by_cases n0 : (those mk 43).length = 0
                            · have hsh : shapeB ⟨2, pt, [⟨0, nv, mk⟩]⟩ = true := by
                                rw [shape_one (c := ⟨2, pt, [⟨0, nv, mk⟩]⟩) (.inl rfl) rfl H0.out, decide_eq_true (show (⟨0, nv, mk⟩ : Hunk).old = 0 from rfl)]
                                exact decide_eq_true n0
                              have HNX : Hid (patchFault t = patchGo (k' + 1 + 1) (prevC t (k' + 1 + 1)) (t.drop (k' + 1 + 1))) := by rw [Hid, HPV.out, hG.out]; exact patchGo_next HD.out (HCF.out.1 hsh) HO.out
                              have n0' : ¬ (0 : Int) < (those mk 43).length := by omega
                              have n0'' := decide_eq_false n0'
                              have n0n : ¬ 0 < (those mk 43).length := by omega
                              clear hG hsh n0
                              go_wp2_with fail
                              go_roundw
                              case rel => exact ⟨k' + 1 + 1, by omega, by go_num, hcE, HNX.out⟩
                              case measure => simp [intOf] <;> omega
                            · have hsh : shapeB ⟨2, pt, [⟨0, nv, mk⟩]⟩ = false := by
                                rw [shape_one (c := ⟨2, pt, [⟨0, nv, mk⟩]⟩) (.inl rfl) rfl H0.out, decide_eq_true (show (⟨0, nv, mk⟩ : Hunk).old = 0 from rfl)]
                                exact decide_eq_false n0
                              have HE : Hid (patchFault t = (k' + 1, 2)) := by rw [Hid, hG.out]; exact pg_bad HD.out (.inr (HCF.out.2 hsh)) (.inl hsh) HCF.out.2
                              have n0' : (0 : Int) < (those mk 43).length := by omega
                              have n0'' := decide_eq_true n0'
                              have n0n : 0 < (those mk 43).length := by omega
                              clear hG hsh n0
                              go_wp2_with fail
                              go_ret2
                              exact ⟨by rw [HE.out]; rfl, hcE⟩
                          · subst k3
                            clear t1 t1' k1
                            go_upto_region 18 with fail
                            generalize w6.alloc (.cells #[.int .i64 0, .int .i64 nv, .slice xa mk.length xc] 61) = w7 at hBx hAx ⊢
                            clear x0 x1 x2
                            obtain ⟨x0, _, x2⟩ := hBx.cell
                            have d0 := hAx.cellNever d0
                            go_wp2_with fail
                            refine (refNew_any mk _ _ (hmv.never (hcE.trans hAx)) HMK.out).mono ?_
                            rintro e w8 ⟨r8, rfl, hc8, hr8⟩
                            obtain ⟨ra, rc, rfl, _, _, _⟩ := rdv_slice hr8
                            have hcE := (hcE.trans hAx).trans hc8
                            have d0 := hc8.cellNever d0
                            have x0 := hc8.cellNever x0
                            have x2 := hc8.cellNever x2
                            clear hr8 hc8 hAx d1 d2
                            by_cases n0 : (those mk 45).length = 0
                            · have hsh : shapeB ⟨3, pt, [⟨0, nv, mk⟩]⟩ = true := by
                                rw [shape_one (c := ⟨3, pt, [⟨0, nv, mk⟩]⟩) (.inr rfl) rfl H0.out, decide_eq_true (show (⟨0, nv, mk⟩ : Hunk).old = 0 from rfl)]
                                exact decide_eq_true n0
                              have HNX : Hid (patchFault t = patchGo (k' + 1 + 1) (prevC t (k' + 1 + 1)) (t.drop (k' + 1 + 1))) := by rw [Hid, HPV.out, hG.out]; exact patchGo_next HD.out (HCF.out.1 hsh) HO.out
                              have n0' : ¬ (0 : Int) < (those mk 45).length := by omega
                              have n0'' := decide_eq_false n0'
                              have n0n : ¬ 0 < (those mk 45).length := by omega
                              clear hG hsh n0
                              go_wp2_with fail
                              go_roundw
                              case rel => exact ⟨k' + 1 + 1, by omega, by go_num, hcE, HNX.out⟩
                              case measure => simp [intOf] <;> omega
                            · have hsh : shapeB ⟨3, pt, [⟨0, nv, mk⟩]⟩ = false := by
                                rw [shape_one (c := ⟨3, pt, [⟨0, nv, mk⟩]⟩) (.inr rfl) rfl H0.out, decide_eq_true (show (⟨0, nv, mk⟩ : Hunk).old = 0 from rfl)]
                                exact decide_eq_false n0
                              have HE : Hid (patchFault t = (k' + 1, 2)) := by rw [Hid, hG.out]; exact pg_bad HD.out (.inr (HCF.out.2 hsh)) (.inl hsh) HCF.out.2
                              have n0' : (0 : Int) < (those mk 45).length := by omega
                              have n0'' := decide_eq_true n0'
                              have n0n : 0 < (those mk 45).length := by omega
                              clear hG hsh n0
                              go_wp2_with fail
                              go_ret2
                              exact ⟨by rw [HE.out]; rfl, hcE⟩
                        · have o0 : (ov == 0) = false := by simp [o]
                          have hBx := Blk3.new w6 61 (.int .i64 ov) (.int .i64 nv) (.slice xa mk.length xc)
                          have hAx : Chg Never w6 (w6.alloc (.cells #[.int .i64 ov, .int .i64 nv, .slice xa mk.length xc] 61)) := (Chg.refl Never w6).alloc _
                          have o1 : (ov != 0) = true := by simp [o]
                          have hsh : shapeB ⟨wh, pt, [⟨ov, nv, mk⟩]⟩ = false := by rw [shape_one (c := ⟨wh, pt, [⟨ov, nv, mk⟩]⟩) k23 rfl H0.out, decide_eq_false o]; rfl
                          have HE : Hid (patchFault t = (k' + 1, 2)) := by rw [Hid, hG.out]; exact pg_bad HD.out (.inr (HCF.out.2 hsh)) (.inl hsh) HCF.out.2
                          clear hG hsh k1 k23 o
                          go_wp2_with fail
                          go_ret2
                          exact ⟨by rw [HE.out]; rfl, hcE.trans hAx⟩
            · have HE : Hid (patchFault t = (k, (hunksFault hs).2)) := by rw [Hid, hG.out, patchGo_bad HD.out (by rw [cf_hunks (c := ⟨wh, pt, hs⟩) r z y]; exact y), cf_hunks (c := ⟨wh, pt, hs⟩) r z y]
              have y0 : ((hunksFault hs).2 == 0) = false := by simp [y]
              have y1 : ((hunksFault hs).2 != 0) = true := by simp [y]
              clear r z y hG
              go_wp2_with fail
              generalize wr.alloc (.cells #[.int .i64 wh, .string pt, .slice la hs.length lcap] 36) = w3 at hA d0 d1 d2 ⊢
              have hc3 := hc.trans hA
              clear hA c0 c1 c2
              refine (refPath_any pt _).mono ?_
              rintro e w4 ⟨rfl, hc4⟩
              have d0 := hc4.cellNever d0
              have d1 := hc4.cellNever d1
              have d2 := hc4.cellNever d2
              have hcD := hc3.trans hc4
              clear hc3 hc4
              rw [P0.out]
              go_wp2_with fail
              refine (refHunks_any hs _ _ (hlv.never hcD)).mono ?_
              rintro e w5 ⟨rfl, hc5⟩
              have d0 := hc5.cellNever d0
              have d1 := hc5.cellNever d1
              have d2 := hc5.cellNever d2
              have hcD := hcD.trans hc5
              clear hc5
              go_wp2_with fail
              go_ret2
              exact ⟨by rw [HE.out]; rfl, hcD⟩
          · have HE : Hid (patchFault t = (k, pathFault pt)) := by rw [Hid, hG.out, patchGo_bad HD.out (by rw [cf_path (c := ⟨wh, pt, hs⟩) r z]; exact z), cf_path (c := ⟨wh, pt, hs⟩) r z]
            have z0 : (pathFault pt == 0) = false := by simp [z]
            have z1 : (pathFault pt != 0) = true := by simp [z]
            clear r z hG
            go_wp2_with fail
            generalize wr.alloc (.cells #[.int .i64 wh, .string pt, .slice la hs.length lcap] 36) = w3 at hA d0 d1 d2 ⊢
            have hc3 := hc.trans hA
            clear hA c0 c1 c2
            refine (refPath_any pt _).mono ?_
            rintro e w4 ⟨rfl, hc4⟩
            have d0 := hc4.cellNever d0
            have d1 := hc4.cellNever d1
            have d2 := hc4.cellNever d2
            have hcD := hc3.trans hc4
            clear hc3 hc4
            go_wp2_with fail
            go_ret2
            exact ⟨by rw [HE.out]; rfl, hcD⟩
      · obtain rfl : k = t.length := by omega
        have e := hG.out
        rw [patchGo_end] at e
        have HE := Lib.hid e
        clear hG e
        go_wp2_with fail
        go_ret2
        exact ⟨by rw [HE.out]; rfl, hc⟩
end Go.Proofs.YteocmmejfnmjcaaGreatDoor
namespace Go.Proofs.YteocmmejfnmjcaaGreatDoor
open Go.RowKit

theorem rd_mark_any (w : World) (O O' : Nat → Prop) : ∀ cs (y : Mark), Dat.rd w O cs y → Dat.rd w O' cs y := fun _ _ h => h
theorem own_made {α : Type} [Dat α] (w : World) (e : TypeId) : Own e (w.alloc (.cells #[] e)) (Old w.heap.size) (.slice (some ⟨w.heap.size, 0, none⟩) 0 0) ([] : List α) :=
  ⟨[], World.ownsRow_made w #[] 0 (Nat.zero_le _) (by unfold maxLen; omega) (by simp), fun k hk ho => by
    simp only [Value.ownBlock, Option.some.injEq] at hk
    subst hk
    unfold Old at ho
    omega, fun i x hi => by simp at hi⟩

set_option maxHeartbeats 800000 in
set_option maxRecDepth 100000 in
theorem clone_str (O : Nat → Prop) (l : List ByteArray) (v : Value) (w : World) (h : Rdv w O v l) (hl : l.length ≤ 1000000) :
    Calls Tryz.prog 63 #[v] w fun e w' => ∃ r, e = .returned r ∧ Chg Never w w' ∧ Own 9 w' (Old w.heap.size) r l := by
  obtain ⟨a, cap, rfl, h1, h2, h3⟩ := rdv_slice h
  unfold maxLen at h2
  cases a with
  | none =>
    have hn : l = [] := by
      cases l with
      | nil => rfl
      | cons x l =>
        obtain ⟨b, off, es, ha, _⟩ := h3 0 x rfl
        cases ha
    subst hn
    have he : ∀ wx, (binOp .eql 62 (.slice none 0 cap) (.slice none 0 0)).run Tryz.prog wx = .ok (.bool true) wx := fun wx => Lib.run_eql_slice_nil wx 62 9 none 0 cap 0 0 Tryz.underlying62
    go_enter Tryz.func63, Tryz.ntmps63
    go_wp2_with fail
    go_ret
    exact ⟨_, rfl, Chg.refl _ _, own_nil _ _ _⟩
  | some a =>
    have hm := own_made (α := ByteArray) w 9
    have hA : Chg Never w (w.alloc (.cells #[] 9)) := (Chg.refl Never w).alloc _
    have hr := (h.sub (O' := Never) (fun _ _ h => h.elim)).never hA
    have hO : ∀ k, Old w.heap.size k → k < (w.alloc (.cells #[] 9)).heap.size := by
      intro k hk
      unfold Old at hk
      simp
      omega
    have hle : ([] : List ByteArray).length + l.length ≤ 1000000000 := by simp; omega
    clear h3 h
    have he : ∀ wx, (binOp .eql 62 (.slice (some a) l.length cap) (.slice none 0 0)).run Tryz.prog wx = .ok (.bool false) wx := fun wx => Lib.run_eql_slice_nil wx 62 9 (some a) l.length cap 0 0 Tryz.underlying62
    go_enter Tryz.func63, Tryz.ntmps63
    go_wp2_with (at_builtin; refine wpList_many (by rfl) _ _ 62 (by rfl) elemOk_str (O := Old w.heap.size) (by rfl) (by rfl) hm hr (rd_str_any _ _ _) hO hle ?_; intro v' w5 hown2 hc2)
    have hc3 := own_step hA hm hc2
    clear hm hr hc2
    go_wp2_with fail
    go_ret
    exact ⟨_, rfl, hc3, hown2⟩
set_option maxHeartbeats 800000 in
set_option maxRecDepth 100000 in
theorem clone_mark (O : Nat → Prop) (l : List Mark) (v : Value) (w : World) (h : Rdv w O v l) (hl : l.length ≤ 1000000) :
    Calls Tryz.prog 73 #[v] w fun e w' => ∃ r, e = .returned r ∧ Chg Never w w' ∧ Own 72 w' (Old w.heap.size) r l := by
  obtain ⟨a, cap, rfl, h1, h2, h3⟩ := rdv_slice h
  unfold maxLen at h2
  cases a with
  | none =>
    have hn : l = [] := by
      cases l with
      | nil => rfl
      | cons x l =>
        obtain ⟨b, off, es, ha, _⟩ := h3 0 x rfl
        cases ha
    subst hn
    have he : ∀ wx, (binOp .eql 59 (.slice none 0 cap) (.slice none 0 0)).run Tryz.prog wx = .ok (.bool true) wx := fun wx => Lib.run_eql_slice_nil wx 59 72 none 0 cap 0 0 Tryz.underlying59
    go_enter Tryz.func73, Tryz.ntmps73
    go_wp2_with fail
    go_ret
    exact ⟨_, rfl, Chg.refl _ _, own_nil _ _ _⟩
  | some a =>
    have hm := own_made (α := Mark) w 72
    have hA : Chg Never w (w.alloc (.cells #[] 72)) := (Chg.refl Never w).alloc _
    have hr := (h.sub (O' := Never) (fun _ _ h => h.elim)).never hA
    have hO : ∀ k, Old w.heap.size k → k < (w.alloc (.cells #[] 72)).heap.size := by
      intro k hk
      unfold Old at hk
      simp
      omega
    have hle : ([] : List Mark).length + l.length ≤ 1000000000 := by simp; omega
    clear h3 h
    have he : ∀ wx, (binOp .eql 59 (.slice (some a) l.length cap) (.slice none 0 0)).run Tryz.prog wx = .ok (.bool false) wx := fun wx => Lib.run_eql_slice_nil wx 59 72 (some a) l.length cap 0 0 Tryz.underlying59
    go_enter Tryz.func73, Tryz.ntmps73
    go_wp2_with (at_builtin; refine wpList_many (by rfl) _ _ 59 (by rfl) elemOk_mark (O := Old w.heap.size) (by rfl) (by rfl) hm hr (rd_mark_any _ _ _) hO hle ?_; intro v' w5 hown2 hc2)
    have hc3 := own_step hA hm hc2
    clear hm hr hc2
    go_wp2_with fail
    go_ret
    exact ⟨_, rfl, hc3, hown2⟩

set_option maxHeartbeats 800000 in
set_option maxRecDepth 100000 in
theorem copy_any (h : Hunk) (mv : Value) (w : World) (hm : Rdv w Never mv h.marks) (hl : h.marks.length ≤ 120) :
    Calls Tryz.prog 50 #[.agg #[.int .i64 h.old, .int .i64 h.new, mv]] w fun e w' => ∃ r, e = .returned (.agg #[.int .i64 h.old, .int .i64 h.new, r]) ∧ Chg Never w w' ∧ Rdv w' (Old w.heap.size) r h.marks := by
  obtain ⟨o, n, l⟩ := h
  simp only at hm hl ⊢
  obtain ⟨a, cap, rfl, h1, h2, h3⟩ := rdv_slice hm
  have hA : Chg Never w ((w.alloc (.cells #[.int .i64 o, .int .i64 n, .slice a l.length cap] 61)).alloc (.cells #[.int .i64 0, .int .i64 0, .slice none 0 0] 61)) := ((Chg.refl Never w).alloc _).alloc _
  have hP : Blk3 ((w.alloc (.cells #[.int .i64 o, .int .i64 n, .slice a l.length cap] 61)).alloc (.cells #[.int .i64 0, .int .i64 0, .slice none 0 0] 61)) w.heap.size 61 (.int .i64 o) (.int .i64 n) (.slice a l.length cap) :=
    (Blk3.new w 61 (.int .i64 o) (.int .i64 n) (.slice a l.length cap)).keep (O := Never) ((Chg.refl _ _).alloc _) (fun h => h)
  have hR : Blk3 ((w.alloc (.cells #[.int .i64 o, .int .i64 n, .slice a l.length cap] 61)).alloc (.cells #[.int .i64 0, .int .i64 0, .slice none 0 0] 61)) (w.heap.size + 1) 61 (.int .i64 0) (.int .i64 0) (.slice none 0 0) := by
    have := Blk3.new (w.alloc (.cells #[.int .i64 o, .int .i64 n, .slice a l.length cap] 61)) 61 (.int .i64 0) (.int .i64 0) (.slice none 0 0)
    rw [World.size_alloc] at this
    exact this
  go_enter Tryz.func50, Tryz.ntmps50
  go_wp2_with fail
  refine (clone_mark Never l _ _ (hm.never hA) (by omega)).mono ?_
  rintro e w2 ⟨r, rfl, hc2, hown⟩
  obtain ⟨ra, rn, rc, rfl⟩ := own_isSlice hown
  have hP2 := hP.keep hc2 (fun h => h)
  have hR2 := hR.keep hc2 (fun h => h)
  have hc := hA.trans hc2
  have hown' := hown.keep (O'' := Old (w.heap.size + 2)) (Chg.refl Never _) (fun _ _ h => h.elim) (fun j _ hj => by unfold Old at *; simp; omega)
  have hP3 := hP2.set2 (.slice ra rn rc)
  have hR3 := hR2.keep (O := fun j => j = w.heap.size) ((Chg.refl (fun j => j = w.heap.size) w2).setCell (p := ⟨w.heap.size, 2, none⟩) (.inr rfl) (.slice ra rn rc)) (by omega)
  have hS : Chg (fun j => j = w.heap.size ∨ j = w.heap.size + 1) w2 ((((w2.setCell ⟨w.heap.size, 2, none⟩ (.slice ra rn rc)).setCell ⟨w.heap.size + 1, 0, none⟩ (.int .i64 o)).setCell ⟨w.heap.size + 1, 1, none⟩ (.int .i64 n)).setCell ⟨w.heap.size + 1, 2, none⟩ (.slice ra rn rc)) :=
    ((((Chg.refl (fun j => j = w.heap.size ∨ j = w.heap.size + 1) w2).setCell (p := ⟨w.heap.size, 2, none⟩) (.inr (.inl rfl)) _).setCell (p := ⟨w.heap.size + 1, 0, none⟩) (.inr (.inr rfl)) _).setCell (p := ⟨w.heap.size + 1, 1, none⟩) (.inr (.inr rfl)) _).setCell (p := ⟨w.heap.size + 1, 2, none⟩) (.inr (.inr rfl)) _
  have hr := (hown'.keep (O'' := Old w.heap.size) hS (fun j _ h => by unfold Old; omega) (fun j _ h => by unfold Old at *; omega)).rdv
  have hcF := hc.trans' hS (O := Never) (fun j hj h => by omega)
  obtain ⟨f0, f1, f2⟩ := (((hR3.set0 (.int .i64 o)).set1 (.int .i64 n)).set2 (.slice ra rn rc)).cell
  obtain ⟨p0, p1, p2⟩ := hP2.cell
  have pf := hP2.free
  obtain ⟨q0, q1, q2⟩ := hP3.cell
  obtain ⟨r0, r1, r2⟩ := hR3.cell
  have rf := hR3.free
  clear hS hown' hown hP hR hP3 hR3 hP2 hR2 hA hc2 hc h3 hm
  go_wp2_with fail
  exact bodyPost_ret (v := .agg #[.int .i64 o, .int .i64 n, .slice ra rn rc]) (by simp [results, Tryz.results50, go_sem, f0, f1, f2]) rfl ⟨_, rfl, hcF, hr⟩
end Go.Proofs.YteocmmejfnmjcaaGreatDoor
namespace Go.Proofs.YteocmmejfnmjcaaGreatDoor
open Go.RowKit

theorem run_many2 {P : Program} {α : Type} [Dat α] {t ty e : TypeId} (hP : ElemOk P t e (Dat.n α)) {w0 : World} {O : Nat → Prop} {v x : Value} {l m : List α}
    (hown : Own e w0 O v l) (hx : Rdv w0 (fun k => O k ∨ v.ownBlock = some k) x m) (hO : ∀ k, O k → k < w0.heap.size) (hlen : l.length + m.length ≤ 1000000000) :
    ∃ v' w', (Builtin.append_ #[t, t] ty #[v, x]).run P w0 = .ok v' w' ∧ Own e w' O v' (l ++ m) ∧ Chg (OwnB v) w0 w' ∧ (∀ k, v'.ownBlock = some k → v.ownBlock = some k ∨ w0.heap.size ≤ k) := by
  obtain ⟨a, cap, rfl, c1, c2, hel⟩ := rdv_slice hx
  rcases Nat.eq_zero_or_pos m.length with h0 | hpos
  · have : m = [] := List.eq_nil_of_length_eq_zero h0
    subst this
    refine ⟨v, w0, ?_, by rw [List.append_nil]; exact hown, Chg.refl _ _, fun k hk => .inl hk⟩
    obtain ⟨xs, hrow, _⟩ := hown
    exact run_append_empty hP hrow a cap
  · obtain ⟨b, off, rfl⟩ : ∃ b off, a = some ⟨b, off, none⟩ := by
      obtain ⟨b, off, es, ha, _⟩ := hel 0 m[0] (by simp [hpos])
      exact ⟨b, off, ha⟩
    obtain ⟨i, z, hi, hz, hsz, hzs, hby⟩ := hP.info
    obtain ⟨xs, hrow, hb, hels⟩ := id hown
    obtain ⟨news, n1, n2, n3, n4⟩ := elems_cells hel m.length (Nat.le_refl _)
    have hpos' := Dat.pos (α := α)
    have hcells : ∀ j u, news[j]? = some u → w0.cell? ((⟨b, off, none⟩ : Addr).add j) = some u := by
      intro j u hj
      have e1 : (⟨b, off, none⟩ : Addr).add j = ⟨b, off + j, none⟩ := by unfold Addr.add; split <;> simp_all
      rw [e1]
      exact n2 j u hj
    have hbound : (l.length + m.length) * i.bytes ≤ 140737488355328 := by
      have := Nat.mul_le_mul hlen hby
      omega
    obtain ⟨v', w', hrun, hown', hgrow, hnil⟩ := run_append_own (P := P) w0 0 t ty e i z (Dat.n α) i.bytes hP.ht hi hz hsz rfl hzs hpos' v l.length xs hrow
      ⟨b, off, none⟩ m.length cap news n1 hcells n3 (by unfold maxLen; omega) hbound (Nat.zero_le _)
    obtain ⟨kb, hkb, hkb'⟩ := append_block (P := P) w0 0 t ty e i z (Dat.n α) i.bytes hP.ht hi hz hsz rfl v l.length xs hrow
      ⟨b, off, none⟩ m.length cap news n1 hcells n3 (by unfold maxLen; omega) hbound (by omega) hrun
    have hc : Chg (OwnB v) w0 w' := Chg.of_grown hgrow
    have hsub : ∀ k, k < w0.heap.size → (O k ∨ v'.ownBlock = some k) → (O k ∨ v.ownBlock = some k) := by
      rintro k hk (h | h)
      · exact .inl h
      · rw [hkb] at h
        injection h with h
        subst h
        rcases hkb' with h | h
        · exact .inr h
        · omega
    refine ⟨v', w', hrun, ⟨xs ++ news, ?_, ?_, ?_⟩, hc, fun k hk => by rw [hkb] at hk; injection hk with hk; subst hk; exact hkb'.imp_right (fun h => Nat.le_of_eq h.symm)⟩
    · rw [List.length_append]; exact hown'
    · intro k hk ho
      rw [hkb] at hk
      injection hk with hk
      subst hk
      rcases hkb' with h | h
      · exact hb _ h ho
      · exact absurd (hO _ ho) (by omega)
    · intro j y hj
      have hxl : xs.length = l.length * Dat.n α := hrow.1
      rcases Nat.lt_or_ge j l.length with hjl | hjl
      · rw [List.getElem?_append_left hjl] at hj
        have hle : j * Dat.n α + Dat.n α ≤ xs.length := by rw [hxl, ← Nat.succ_mul]; exact Nat.mul_le_mul_right _ hjl
        rw [List.drop_append_of_le_length (by omega), List.take_append_of_le_length (by rw [List.length_drop]; omega)]
        exact Dat.keep (hels j y hj) hc (fun k _ hk => .inr hk) hsub
      · rw [List.getElem?_append_right hjl] at hj
        have hjm := (List.getElem?_eq_some_iff.1 hj).1
        have e1 : (xs ++ news).drop (j * Dat.n α) = news.drop ((j - l.length) * Dat.n α) := by
          have e2 : j * Dat.n α = xs.length + (j - l.length) * Dat.n α := by rw [hxl, ← Nat.add_mul]; congr 1; omega
          rw [e2, List.drop_append]
          simp
        rw [e1]
        exact Dat.keep (n4 _ y hjm hj) hc (fun k _ hk => .inr hk) hsub

theorem wpList_many2 {P : Program} {ops : Array Oper} {rest : List Oper} {o : Oper} {a : Act} {Q : Exit → Act → World → Prop} (hgd : o.guard = none) (s x : Operand) (t : TypeId)
    (ho : o.op = .call { callee := .builtin .append, args := #[s, x], argTypes := #[t, t] }) {α : Type} [Dat α] {e : TypeId} (hP : ElemOk P t e (Dat.n α)) {w0 : World} {O : Nat → Prop} {v u : Value} {l m : List α}
    (hs : a.eval s = v) (hx : a.eval x = u) (hown : Own e w0 O v l) (hu : Rdv w0 (fun k => O k ∨ v.ownBlock = some k) u m) (hO : ∀ k, O k → k < w0.heap.size) (hlen : l.length + m.length ≤ 1000000000)
    (h : ∀ v' w', Own e w' O v' (l ++ m) → Chg (OwnB v) w0 w' → (∀ k, v'.ownBlock = some k → v.ownBlock = some k ∨ w0.heap.size ≤ k) → wpList P ops Q rest (a.put o.dst v') w') :
    wpList P ops Q (o :: rest) a w0 := by
  refine wpList_plain hgd fun K hK => ?_
  obtain ⟨v', w', hrun, h1, h2, h3⟩ := run_many2 (ty := o.type) hP hown hu hO hlen
  unfold Oper.wp execOp
  simp only [ho, resolve, invoke, builtin, Sem.run_bind, Sem.run_pure, Result.andThen_ok, List.map_toArray, List.map_cons, List.map_nil, hs, hx, hrun]
  exact hK _ _ (h v' w' h1 h2 h3)

/-- v owns its row, which has come since w0; its elements may lie wherever -/
structure OwnN {α : Type} [Dat α] (e : TypeId) (w0 wr : World) (v : Value) (l : List α) : Prop where
  own : Own e wr Never v l
  new : ∀ k, v.ownBlock = some k → w0.heap.size ≤ k
  chg : Chg Never w0 wr
theorem ownN_nil {α : Type} [Dat α] (e : TypeId) {w0 wr : World} (h : Chg Never w0 wr) : OwnN e w0 wr (.slice none 0 0) ([] : List α) :=
  ⟨own_nil _ _ _, fun k hk => by simp [Value.ownBlock] at hk, h⟩
theorem OwnN.step {α : Type} [Dat α] {e : TypeId} {w0 wr w' : World} {v v' : Value} {l l' : List α} (h : OwnN e w0 wr v l) (hown : Own e w' Never v' l') (hc : Chg (OwnB v) wr w') (hk : ∀ k, v'.ownBlock = some k → v.ownBlock = some k ∨ wr.heap.size ≤ k) : OwnN e w0 w' v' l' :=
  ⟨hown, fun k hk' => (hk k hk').elim (h.new k) (fun hh => Nat.le_trans h.chg.size hh), h.chg.trans' hc (fun i hi hh => absurd (h.new i hh) (by omega))⟩
theorem OwnN.step1 {α : Type} [Dat α] {e : TypeId} {w0 wr w' : World} {v v' : Value} {l l' : List α} (h : OwnN e w0 wr v l) (hown : Own e w' Never v' l') (hc : Chg (OwnB v) wr w') (hk : ∃ k, v'.ownBlock = some k ∧ (v.ownBlock = some k ∨ wr.heap.size ≤ k)) : OwnN e w0 w' v' l' :=
  h.step hown hc (fun k hk' => by
    obtain ⟨j, h1, h2⟩ := hk
    rw [h1] at hk'
    injection hk' with hk'
    subst hk'
    exact h2)
theorem OwnN.never {α : Type} [Dat α] {e : TypeId} {w0 wr w' : World} {v : Value} {l : List α} (h : OwnN e w0 wr v l) (hc : Chg Never wr w') : OwnN e w0 w' v l := ⟨h.own.never hc, h.new, h.chg.trans hc⟩
/-- what was there at the beginning does not lie in the row -/
theorem OwnN.away {α β : Type} [Dat α] [Dat β] {e : TypeId} {w0 wr : World} {v u : Value} {l : List α} {x : β} (h : OwnN e w0 wr v l) (hu : Rdv w0 Never u x) : Rdv wr (fun k => Never k ∨ v.ownBlock = some k) u x :=
  (hu.sub (O' := fun k => Never k ∨ v.ownBlock = some k) (fun k hk hh => by
    rcases hh with hh | hh
    · exact hh
    · exact absurd (h.new k hh) (by omega))).never h.chg
end Go.Proofs.YteocmmejfnmjcaaGreatDoor
namespace Go.Proofs.YteocmmejfnmjcaaGreatDoor
open Go.RowKit

/-- what has come since does not lie in the row -/
theorem OwnN.fresh {α β : Type} [Dat α] [Dat β] {e : TypeId} {w0 wr w' : World} {v u : Value} {l : List α} {x : β} (h : OwnN e w0 wr v l) (hu : Rdv w' (Old wr.heap.size) u x) : Rdv w' (fun k => Never k ∨ v.ownBlock = some k) u x :=
  hu.sub (fun k _ hh => by
    rcases hh with hh | hh
    · exact hh.elim
    · exact own_block_lt h.own k hh)
end Go.Proofs.YteocmmejfnmjcaaGreatDoor
namespace Go.Proofs.YteocmmejfnmjcaaGreatDoor
open Go.RowKit

/-! ### elements and their cells -/
def RdL {α : Type} [Dat α] (w : World) (O : Nat → Prop) : List α → List (List Value) → Prop
  | [], [] => True
  | x :: l, c :: r => Dat.rd w O c x ∧ RdL w O l r
  | _, _ => False
theorem RdL.len {α : Type} [Dat α] {w : World} {O : Nat → Prop} : ∀ {l : List α} {r : List (List Value)}, RdL w O l r → r.length = l.length ∧ ∀ c ∈ r, c.length = Dat.n α
  | [], [], _ => ⟨rfl, by simp⟩
  | x :: l, c :: r, h => by
    obtain ⟨h1, h2⟩ := RdL.len h.2
    refine ⟨by rw [List.length_cons, List.length_cons, h1], fun y hy => ?_⟩
    rcases List.mem_cons.1 hy with rfl | hy
    · exact Dat.len h.1
    · exact h2 y hy
  | [], _ :: _, h => h.elim
  | _ :: _, [], h => h.elim
theorem RdL.one {α : Type} [Dat α] {w : World} {O : Nat → Prop} : ∀ {l : List α} {r : List (List Value)}, RdL w O l r → ∀ c ∈ r, ∀ u ∈ c, u.oneCell' = true
  | [], [], _ => by simp
  | x :: l, c :: r, h => by
    intro y hy
    rcases List.mem_cons.1 hy with rfl | hy
    · exact Dat.one h.1
    · exact RdL.one h.2 y hy
  | [], _ :: _, h => h.elim
  | _ :: _, [], h => h.elim
theorem RdL.take {α : Type} [Dat α] {w : World} {O : Nat → Prop} : ∀ {l : List α} {r : List (List Value)} (k : Nat), RdL w O l r → RdL w O (l.take k) (r.take k)
  | _, _, 0, _ => trivial
  | [], [], _ + 1, _ => trivial
  | _ :: _, _ :: _, k + 1, h => ⟨h.1, RdL.take k h.2⟩
  | [], _ :: _, _ + 1, h => h.elim
  | _ :: _, [], _ + 1, h => h.elim
theorem RdL.drop {α : Type} [Dat α] {w : World} {O : Nat → Prop} : ∀ {l : List α} {r : List (List Value)} (k : Nat), RdL w O l r → RdL w O (l.drop k) (r.drop k)
  | _, _, 0, h => h
  | [], [], _ + 1, _ => trivial
  | _ :: _, _ :: _, k + 1, h => RdL.drop k h.2
  | [], _ :: _, _ + 1, h => h.elim
  | _ :: _, [], _ + 1, h => h.elim
theorem RdL.app {α : Type} [Dat α] {w : World} {O : Nat → Prop} : ∀ {l m : List α} {r s : List (List Value)}, RdL w O l r → RdL w O m s → RdL w O (l ++ m) (r ++ s)
  | [], _, [], _, _, g => g
  | _ :: _, _, _ :: _, _, h, g => ⟨h.1, RdL.app h.2 g⟩
  | [], _, _ :: _, _, h, _ => h.elim
  | _ :: _, _, [], _, h, _ => h.elim
theorem RdL.keep {α : Type} [Dat α] {w w' : World} {O O' O'' : Nat → Prop} (hc : Chg O' w w') (h1 : ∀ k, k < w.heap.size → O' k → O k) (h2 : ∀ k, k < w.heap.size → O'' k → O k) : ∀ {l : List α} {r : List (List Value)}, RdL w O l r → RdL w' O'' l r
  | [], [], _ => trivial
  | _ :: _, _ :: _, h => ⟨Dat.keep h.1 hc h1 h2, RdL.keep hc h1 h2 h.2⟩
  | [], _ :: _, h => h.elim
  | _ :: _, [], h => h.elim
theorem RdL.get {α : Type} [Dat α] {w : World} {O : Nat → Prop} : ∀ {l : List α} {r : List (List Value)}, RdL w O l r → ∀ (i : Nat) (x : α), l[i]? = some x → Dat.rd w O ((r.flatten.drop (i * Dat.n α)).take (Dat.n α)) x
  | [], [], _, i, x, hx => by simp at hx
  | y :: l, c :: r, h, 0, x, hx => by
    simp only [List.getElem?_cons_zero, Option.some.injEq] at hx
    subst hx
    have e : ((c :: r).flatten.drop (0 * Dat.n α)).take (Dat.n α) = c := by
      rw [Nat.zero_mul, List.drop_zero, List.flatten_cons, ← Dat.len h.1, List.take_left]
    rw [e]; exact h.1
  | y :: l, c :: r, h, i + 1, x, hx => by
    have := RdL.get h.2 i x (by simpa using hx)
    have e : (c :: r).flatten.drop ((i + 1) * Dat.n α) = r.flatten.drop (i * Dat.n α) := by
      rw [List.flatten_cons, Nat.succ_mul, Nat.add_comm, ← List.drop_drop, ← Dat.len h.1, List.drop_left]
    rw [e]; exact this
  | [], _ :: _, h, _, _, _ => h.elim
  | _ :: _, [], h, _, _, _ => h.elim
theorem rdl_of {α : Type} [Dat α] {w : World} {O : Nat → Prop} : ∀ (l : List α) (xs : List Value), xs.length = l.length * Dat.n α → (∀ (i : Nat) (x : α), l[i]? = some x → Dat.rd w O ((xs.drop (i * Dat.n α)).take (Dat.n α)) x) → ∃ r, RdL w O l r ∧ r.flatten = xs
  | [], xs, h, _ => ⟨[], trivial, by
    have : xs = [] := List.eq_nil_of_length_eq_zero (by rw [h]; simp)
    rw [this]; rfl⟩
  | x :: l, xs, h, g => by
    obtain ⟨r, h1, h2⟩ := rdl_of l (xs.drop (Dat.n α)) (by rw [List.length_drop, h, List.length_cons, Nat.succ_mul]; omega) (fun i y hy => by
      have := g (i + 1) y (by simpa using hy)
      rw [List.drop_drop]
      rwa [show Dat.n α + i * Dat.n α = (i + 1) * Dat.n α by rw [Nat.succ_mul, Nat.add_comm]])
    have := g 0 x rfl
    rw [Nat.zero_mul, List.drop_zero] at this
    exact ⟨xs.take (Dat.n α) :: r, ⟨this, h1⟩, by rw [List.flatten_cons, h2, List.take_append_drop]⟩
theorem cells_len {q : Nat} : ∀ {r : List (List Value)}, (∀ c ∈ r, c.length = q) → r.flatten.length = r.length * q
  | [], _ => by simp
  | c :: r, h => by
    rw [List.flatten_cons, List.length_append, cells_len (r := r) (fun x hx => h x (List.mem_cons_of_mem _ hx)), h c (List.mem_cons_self ..), List.length_cons, Nat.succ_mul, Nat.add_comm]
theorem cells_take {q : Nat} : ∀ (r : List (List Value)) (k : Nat), (∀ c ∈ r, c.length = q) → r.flatten.take (k * q) = (r.take k).flatten
  | _, 0, _ => by simp
  | [], _ + 1, _ => by simp
  | c :: r, k + 1, h => by
    have e := h c (List.mem_cons_self ..)
    rw [List.take_succ_cons, List.flatten_cons, List.flatten_cons, ← cells_take r k (fun x hx => h x (List.mem_cons_of_mem _ hx)), Nat.succ_mul, Nat.add_comm, ← e, List.take_length_add_append]
theorem cells_drop {q : Nat} : ∀ (r : List (List Value)) (k : Nat), (∀ c ∈ r, c.length = q) → r.flatten.drop (k * q) = (r.drop k).flatten
  | _, 0, _ => by simp
  | [], _ + 1, _ => by simp
  | c :: r, k + 1, h => by
    have e := h c (List.mem_cons_self ..)
    rw [List.drop_succ_cons, List.flatten_cons, ← cells_drop r k (fun x hx => h x (List.mem_cons_of_mem _ hx)), Nat.succ_mul, Nat.add_comm, ← List.drop_drop, ← e, List.drop_left]

/-! ### a row's own block -/
theorem own_rows {α : Type} [Dat α] {e : TypeId} {w : World} {O : Nat → Prop} {v : Value} {l : List α} (h : Own e w O v l) (hl : 0 < l.length) :
    ∃ (g cap : Nat) (r : List (List Value)) (tail : List Value), v = .slice (some ⟨g, 0, none⟩) l.length cap ∧ w.heap[g]? = some (.cells (r.flatten ++ tail).toArray e (0, 0)) ∧ (r.flatten ++ tail).length = cap * Dat.n α ∧ l.length ≤ cap ∧ cap ≤ maxLen ∧ ¬ O g ∧ RdL w (fun k => O k ∨ k = g) l r := by
  obtain ⟨xs, hx, hO, hr⟩ := h
  rcases hx.2 with ⟨_, h0⟩ | ⟨g, cap, cur, rfl, _, hg, hle, hcm, hcs, htk⟩
  · omega
  · have hr' : ∀ (i : Nat) (x : α), l[i]? = some x → Dat.rd w (fun k => O k ∨ k = g) ((xs.drop (i * Dat.n α)).take (Dat.n α)) x := fun i x hx => Dat.keep (hr i x hx) (Chg.refl Never w) (fun _ _ h => h.elim) (fun k _ hk => hk.imp_right (fun e => by rw [e]; rfl))
    obtain ⟨r, h1, h2⟩ := rdl_of l xs hx.1 hr'
    have e : r.flatten ++ cur.toList.drop (l.length * Dat.n α) = cur.toList := by rw [h2, ← htk, List.take_append_drop]
    refine ⟨g, cap, r, cur.toList.drop (l.length * Dat.n α), rfl, by rw [e]; exact hg, by rw [e]; simpa using hcs, hle, hcm, hO g rfl, h1⟩
theorem own_laid {α : Type} [Dat α] {e : TypeId} {w : World} {O : Nat → Prop} {l : List α} {g cap : Nat} {r : List (List Value)} {tail : List Value} (hg : w.heap[g]? = some (.cells (r.flatten ++ tail).toArray e (0, 0))) (hs : (r.flatten ++ tail).length = cap * Dat.n α) (hle : l.length ≤ cap) (hcm : cap ≤ maxLen) (hO : ¬ O g)
    (hr : RdL w (fun k => O k ∨ k = g) l r) : Own e w O (.slice (some ⟨g, 0, none⟩) l.length cap) l := by
  have hl : r.flatten.length = l.length * Dat.n α := by rw [cells_len hr.len.2, hr.len.1]
  refine ⟨r.flatten, ⟨hl, .inr ⟨g, cap, _, rfl, Nat.zero_le _, hg, hle, hcm, by simpa using hs, ?_⟩⟩, ?_, ?_⟩
  · rw [← hl]; exact List.take_left
  · intro k hk
    injection hk with hk
    subst hk
    exact hO
  · intro i x hx
    exact Dat.keep (hr.get i x hx) (Chg.refl Never w) (fun _ _ h => h.elim) (fun k _ hk => hk.imp_right (fun e => by injection e with e; exact e.symm))
theorem chg_setRow (w : World) (g : Nat) (cs : Array Value) : Chg (fun k => k = g) w (w.setRow g cs) :=
  ⟨rfl, rfl, rfl, by simp [World.setRow], fun k _ hk => setRow_other w g k cs hk⟩
theorem row_cell {w : World} {g : Nat} {L : List Value} {e : TypeId} (h : w.heap[g]? = some (.cells L.toArray e (0, 0))) {j : Nat} {u : Value} (hu : L[j]? = some u) : w.cell? ⟨g, j, none⟩ = some u := by
  simp only [World.cell?, h]
  simpa using hu
/-! ### the builtins -/
theorem run_copy_at {P : Program} (w : World) {dT sT ty e : TypeId} {i : TypeInfo} (ht : P.underlying dT = some (.slice e)) (hi : P.info? e = some i) {g d dLen dCap : Nat} {a : Addr} {sLen sCap : Nat} {cs L : List Value}
    (hg : w.heap[g]? = some (.cells L.toArray e (0, 0))) (hn : cs.length = Nat.min sLen dLen * i.size) (hsrc : ∀ j u, cs[j]? = some u → w.cell? (a.add j) = some u) (hfit : d + cs.length ≤ L.length) (h1 : ∀ u ∈ cs, u.oneCell' = true) :
    (Builtin.copy_ #[dT, sT] ty #[.slice (some ⟨g, d, none⟩) dLen dCap, .slice (some a) sLen sCap]).run P w = .ok (goInt (Nat.min sLen dLen)) (w.setRow g (L.take d ++ cs ++ L.drop (d + cs.length)).toArray) := by
  have hf := run_firstCells_some (P := P) w i.size (Nat.min sLen dLen) a sLen sCap cs hn hsrc
  have hst := run_storeCells_at P g d e cs 0 L.toArray w hg (by simpa using hfit) h1
  simp only [Nat.add_zero] at hst
  simp [Builtin.copy_, run_underlying ht, Builtin.lenOf, sizeOf, typeInfo, hi, hf, hst]
theorem run_clear_at {P : Program} (w : World) {t ty e : TypeId} {z : Value} (ht : P.underlying t = some (.slice e)) (hz : ∀ w, (zeroValue e).run P w = .ok z w) {g d c : Nat} {L zs : List Value} (hzs : (Builtin.zeroCells z.cells 1).toList = zs)
    (hg : w.heap[g]? = some (.cells L.toArray e (0, 0))) (hfit : d + zs.length ≤ L.length) (h1 : ∀ u ∈ zs, u.oneCell' = true) :
    (Builtin.clear_ #[t] ty #[.slice (some ⟨g, d, none⟩) 1 c]).run P w = .ok (.tuple #[]) (w.setRow g (L.take d ++ zs ++ L.drop (d + zs.length)).toArray) := by
  have hst := run_storeCells_at P g d e zs 0 L.toArray w hg (by simpa using hfit) h1
  simp only [Nat.add_zero] at hst
  simp [Builtin.clear_, run_underlying ht, hz, hzs, hst]
theorem step_append_eq {P : Program} {ops : Array Oper} {o : Oper} {a : Act} {w : World} {K : Act → World → Prop} {Q : Exit → Act → World → Prop} {E : Prop} (hgd : o.guard = none) (s x : Operand) (t tn : TypeId)
    (ho : o.op = .call { callee := .builtin .append, args := #[s, x], argTypes := #[t, tn] }) (vs vx : Value) (hs : a.eval s = vs) (hx : a.eval x = vx) {v' : Value} {w' : World} (hr : (Builtin.append_ #[t, tn] o.type #[vs, vx]).run P w = .ok v' w') (h : K (a.put o.dst v') w') :
    if Region.wanted o (yielded ops a.tmps) = true then Oper.wp P o a w K Q else E := by
  have hw : Region.wanted o (yielded ops a.tmps) = true := by simp [Region.wanted, hgd]
  rw [if_pos hw]
  exact Lib.wp_append_run w s x t tn ho vs vx hs hx v' w' hr h
theorem wp_copy_eq {P : Program} (w : World) {o : Oper} {a : Act} {K : Act → World → Prop} {Q : Exit → Act → World → Prop} (d s : Operand) (t t' : TypeId)
    (ho : o.op = .call { callee := .builtin .copy, args := #[d, s], argTypes := #[t, t'] }) (v u : Value) (hd : a.eval d = v) (hs : a.eval s = u) {v' : Value} {w' : World}
    (hr : (Builtin.copy_ #[t, t'] o.type #[v, u]).run P w = .ok v' w') (h : K (a.put o.dst v') w') : o.wp P a w K Q := by
  unfold Oper.wp execOp
  simp only [ho, resolve, invoke, builtin, Sem.run_bind, Sem.run_pure, Result.andThen_ok, List.map_toArray, List.map_cons, List.map_nil, hd, hs, hr]
  exact h
theorem wpList_copy_eq {P : Program} (w : World) {ops : Array Oper} {rest : List Oper} {o : Oper} {a : Act} {Q : Exit → Act → World → Prop} (hgd : o.guard = none) (d s : Operand) (t t' : TypeId)
    (ho : o.op = .call { callee := .builtin .copy, args := #[d, s], argTypes := #[t, t'] }) (v u : Value) (hd : a.eval d = v) (hs : a.eval s = u) {v' : Value} {w' : World}
    (hr : (Builtin.copy_ #[t, t'] o.type #[v, u]).run P w = .ok v' w') (h : wpList P ops Q rest (a.put o.dst v') w') : wpList P ops Q (o :: rest) a w :=
  wpList_plain hgd fun _ hK => wp_copy_eq w d s t t' ho v u hd hs hr (hK _ _ h)
theorem step_copy_eq {P : Program} {ops : Array Oper} {o : Oper} {a : Act} {w : World} {K : Act → World → Prop} {Q : Exit → Act → World → Prop} {E : Prop} (hgd : o.guard = none) (d s : Operand) (t t' : TypeId)
    (ho : o.op = .call { callee := .builtin .copy, args := #[d, s], argTypes := #[t, t'] }) (v u : Value) (hd : a.eval d = v) (hs : a.eval s = u) {v' : Value} {w' : World} (hr : (Builtin.copy_ #[t, t'] o.type #[v, u]).run P w = .ok v' w') (h : K (a.put o.dst v') w') :
    if Region.wanted o (yielded ops a.tmps) = true then Oper.wp P o a w K Q else E := by
  have hw : Region.wanted o (yielded ops a.tmps) = true := by simp [Region.wanted, hgd]
  rw [if_pos hw]
  exact wp_copy_eq w d s t t' ho v u hd hs hr h
end Go.Proofs.YteocmmejfnmjcaaGreatDoor
namespace Go.Proofs.YteocmmejfnmjcaaGreatDoor
open Go.RowKit

theorem elemOk_file : ElemOk Tryz.prog 22 76 2 := elemOk_of Tryz.underlying22 (z := .agg #[.string ⟨#[]⟩, .slice none 0 0]) (b := 40) (by kernel_rfl) rfl (by decide)
theorem size_file (w : World) : (sizeOf (Tryz.prog.elem 22)).run Tryz.prog w = .ok 2 w := by kernel_rfl

set_option maxHeartbeats 1000000 in
set_option maxRecDepth 100000 in
theorem refDrop_any (t : List File) (k : Nat) (v : Value) (w : World) (h : Rdv w Never v t) (hk : k < t.length) (hl : t.length ≤ 1000000) :
    Calls Tryz.prog 35 #[v, .int .i64 k] w fun e w' => ∃ r, e = .returned r ∧ Chg Never w w' ∧ Rdv w' Never r (dropAt t k) := by
  obtain ⟨a, cap, rfl, h1, h2, _⟩ := rdv_slice h
  unfold maxLen at h2
  obtain ⟨sb1, u0, u1, hrunH, hsub1⟩ := slice_gen (P := Tryz.prog) (t := 22) (by kernel_rfl) size_file h 0 k (Nat.zero_le _) (by omega)
  have hrunH := fun (wx : World) => hrunH k wx rfl rfl
  clear u0 u1
  rw [Nat.sub_zero, Nat.sub_zero] at hrunH hsub1
  rw [List.drop_zero] at hsub1
  obtain ⟨sb2, u0, hrunL, u1, hsub2⟩ := slice_gen (P := Tryz.prog) (t := 22) (by kernel_rfl) size_file h (k + 1) t.length (by omega) (Nat.le_refl _)
  have hrunL := fun (wx : World) => hrunL ((k : Int) + 1) wx (by push_cast; rfl) rfl
  clear u0 u1
  rw [List.take_of_length_le (by rw [List.length_drop]; omega)] at hsub2
  have hn := ownN_nil (α := File) 76 (Chg.refl Never w)
  have hle1 : ([] : List File).length + (t.take k).length ≤ 1000000000 := by simp; omega
  have hle2 : ([] ++ t.take k).length + (t.drop (k + 1)).length ≤ 1000000000 := by simp; omega
  go_enter Tryz.func35, Tryz.ntmps35
  go_wp2_with (first
    | (at_builtin; refine wpList_many2 (by rfl) _ _ 22 (by rfl) elemOk_file (O := Never) (l := []) (m := t.take k) (by rfl) (by rfl) hn.own (hn.away hsub1) (fun _ h => h.elim) hle1 ?_; intro v1 w1 hw1 hd1 hk1; have hn1 := hn.step hw1 hd1 hk1; clear hw1 hd1 hk1 hn; obtain ⟨s1, n1, c1, rfl⟩ := own_isSlice hn1.own)
    | (at_builtin; refine wpList_many2 (by rfl) _ _ 22 (by rfl) elemOk_file (O := Never) (l := [] ++ t.take k) (m := t.drop (k + 1)) (by rfl) (by rfl) hn1.own (hn1.away hsub2) (fun _ h => h.elim) hle2 ?_; intro v2 w2 hw2 hd2 hk2; have hn2 := hn1.step hw2 hd2 hk2; clear hw2 hd2 hk2 hn1; obtain ⟨s2, n2, c2, rfl⟩ := own_isSlice hn2.own))
  go_ret
  exact ⟨_, rfl, hn2.chg, hn2.own.rdv.sub (fun _ _ h => h.elim)⟩

theorem putLoop_step (f x : File) (done : Bool) (r : List File) : putLoop f done (x :: r) = (if !done && leqB f.path x.path then [f] else []) ++ (if x.path = f.path then [] else [x]) ++ putLoop f (done || leqB f.path x.path) r := by rw [putLoop]
set_option maxHeartbeats 2000000 in
set_option maxRecDepth 100000 in
theorem refPut_any (t : List File) (f : File) (v fv : Value) (w : World) (h : Rdv w Never v t) (hf : Rdv w Never fv f.lines) (hp : f.path.size ≤ maxLen) (hl : t.length ≤ 1000000) :
    Calls Tryz.prog 34 #[v, .agg #[.string f.path, fv]] w fun e w' => ∃ r, e = .returned r ∧ Chg Never w w' ∧ Rdv w' Never r (putLoop f false t) := by
  obtain ⟨a, cap, rfl, h1, h2, _⟩ := rdv_slice h
  obtain ⟨fa, fcap, rfl, _, _, _⟩ := rdv_slice hf
  unfold maxLen at h2
  have hA : Chg Never w (w.alloc (.cells #[.string f.path, .slice fa f.lines.length fcap] 76)) := (Chg.refl Never w).alloc _
  have b0 : (w.alloc (.cells #[.string f.path, .slice fa f.lines.length fcap] 76)).cell? ⟨w.heap.size, 0, none⟩ = some (.string f.path) := by simp only [World.cell?]; rw [heap_alloc_new]; rfl
  have b1 : (w.alloc (.cells #[.string f.path, .slice fa f.lines.length fcap] 76)).cell? ⟨w.heap.size, 1, none⟩ = some (.slice fa f.lines.length fcap) := by simp only [World.cell?]; rw [heap_alloc_new]; rfl
  go_enter Tryz.func34, Tryz.ntmps34
  go_wp2_with fail
  generalize w.alloc (.cells #[.string f.path, .slice fa f.lines.length fcap] 76) = w1 at hA b0 b1 ⊢
  generalize w.heap.size = B at b0 b1 ⊢
  have h := h.never hA
  have hf := hf.never hA
  obtain ⟨_, _, hav, _, _, h3⟩ := rdv_slice h
  simp only [Value.slice.injEq, true_and] at hav
  obtain ⟨rfl, rfl⟩ := hav
  go_loopw [5, 6, 7] (fun o dn i wr => ∃ (k : Nat) (done : Bool) (L : List File), k ≤ t.length ∧ i = .int .i64 k ∧ dn = .bool done ∧ OwnN 76 w1 wr o L ∧ L.length ≤ 2 * k ∧ Hid (L ++ putLoop f done (t.drop k) = putLoop f false t)) (fun _ _ i _ => t.length - (intOf i).toNat)
  case atStart => exact ⟨0, false, [], Nat.zero_le _, rfl, rfl, ownN_nil _ (Chg.refl _ _), Nat.le_refl _, rfl⟩
  case round =>
    obtain ⟨k, done, L, hk, rfl, rfl, hn, hL, hP⟩ := hrel
    have q0 := hn.chg.cellNever b0
    have q1 := hn.chg.cellNever b1
    by_cases hlt : k < t.length
    · obtain ⟨x, hx⟩ : ∃ x, t[k]? = some x := ⟨t[k], by simp [hlt]⟩
      obtain ⟨b, off, lv, rfl, _, _, c0, c1, hps, hlv⟩ := elems_file h3 hx
      obtain ⟨la, lcap, rfl, _, _, _⟩ := rdv_slice hlv
      have C0 := Lib.hid c0
      have C1 := Lib.hid c1
      have c0 := hn.chg.cellNever c0
      have c1 := hn.chg.cellNever c1
      have HD := Lib.hid (drop_eq hx)
      clear hx
      cases done with
      | true =>
        by_cases e : x.path = f.path
        · have HN : Hid (L ++ putLoop f true (t.drop (k + 1)) = putLoop f false t) := by
            rw [Hid, ← hP.out, HD.out, putLoop_step]; simp [e]
          have t1 : (x.path.toList == f.path.toList) = true := by rw [e]; exact beq_self_eq_true _
          clear e hP
          go_wp2_with fail
          go_quiet (fail)
          generalize hwqw5 : World.drewN wr _ = w5
          have hn5 := hwqw5 ▸ hn.never ((Chg.refl Never wr).drewN _)
          clear hwqw5 hn
          clear c0 c1 q0 q1
          have c0 := (hn5).chg.cellNever C0.out
          have c1 := (hn5).chg.cellNever C1.out
          have q0 := (hn5).chg.cellNever b0
          have q1 := (hn5).chg.cellNever b1
          go_wp2_with fail
          go_quiet (fail)
          generalize hwqw7 : World.drewN w5 _ = w7
          have hn7 := hwqw7 ▸ hn5.never ((Chg.refl Never w5).drewN _)
          clear hwqw7 hn5
          clear c0 c1 q0 q1
          have c0 := (hn7).chg.cellNever C0.out
          have c1 := (hn7).chg.cellNever C1.out
          have q0 := (hn7).chg.cellNever b0
          have q1 := (hn7).chg.cellNever b1
          go_wp2_with fail
          go_roundw
          case rel => exact ⟨k + 1, true, L, by omega, by go_num, rfl, hn7, by first | omega | (simp; omega), HN⟩
          case measure => simp [intOf] <;> omega
        · have HN : Hid ((L ++ [x]) ++ putLoop f true (t.drop (k + 1)) = putLoop f false t) := by
            rw [Hid, ← hP.out, HD.out, putLoop_step]; simp [e]
          have t1 := str_beq_false e
          clear e hP
          go_wp2_with fail
          go_quiet (fail)
          generalize hwqw5 : World.drewN wr _ = w5
          have hn5 := hwqw5 ▸ hn.never ((Chg.refl Never wr).drewN _)
          clear hwqw5 hn
          clear c0 c1 q0 q1
          have c0 := (hn5).chg.cellNever C0.out
          have c1 := (hn5).chg.cellNever C1.out
          have q0 := (hn5).chg.cellNever b0
          have q1 := (hn5).chg.cellNever b1
          go_wp2_with fail
          go_quiet (fail)
          generalize hwqw7 : World.drewN w5 _ = w7
          have hn7 := hwqw7 ▸ hn5.never ((Chg.refl Never w5).drewN _)
          clear hwqw7 hn5
          clear c0 c1 q0 q1
          have c0 := (hn7).chg.cellNever C0.out
          have c1 := (hn7).chg.cellNever C1.out
          have q0 := (hn7).chg.cellNever b0
          have q1 := (hn7).chg.cellNever b1
          have hyw8 : Dat.rd _ (fun k => Never k ∨ _ = some k) _ x := ⟨_, rfl, hps, hn7.away hlv⟩
          go_wp2_with (at_builtin; refine wpList_push (by rfl) _ _ 22 (by rfl) elemOk_file (O := Never) (l := L) (y := x) (by rfl) (by rfl) (by rfl) hn7.own hyw8 (fun _ h => h.elim) (by first | omega | (simp; omega)) ?_; intro vw8 w8 hown2 hc2 hk2; have hn8 := hn7.step1 hown2 hc2 hk2; clear hown2 hc2 hk2 hn7 hyw8; obtain ⟨vaw8, vnw8, vcw8, rfl⟩ := own_isSlice hn8.own)
          clear c0 c1 q0 q1
          have c0 := (hn8).chg.cellNever C0.out
          have c1 := (hn8).chg.cellNever C1.out
          have q0 := (hn8).chg.cellNever b0
          have q1 := (hn8).chg.cellNever b1
          go_wp2_with fail
          go_roundw
          case rel => exact ⟨k + 1, true, L ++ [x], by omega, by go_num, rfl, hn8, by first | omega | (simp; omega), HN⟩
          case measure => simp [intOf] <;> omega
      | false =>
        rcases less_tri x.path f.path with g | g | g
        · have HN : Hid ((L ++ [x]) ++ putLoop f false (t.drop (k + 1)) = putLoop f false t) := by
            have e1 : leqB f.path x.path = false := by
              rw [Bool.eq_false_iff]; intro e
              rw [leqB_true.1 e] at g; cases g
            rw [Hid, ← hP.out, HD.out, putLoop_step, e1]; simp [less_ne g]
          have a1 : Op.bytesLess f.path.toList x.path.toList = false := less_asymm g
          have a2 := str_beq_false (less_ne g).symm
          have t1 := str_beq_false (less_ne g)
          clear g hP
          go_wp2_with fail
          go_quiet (fail)
          generalize hwqw5 : World.drewN wr _ = w5
          have hn5 := hwqw5 ▸ hn.never ((Chg.refl Never wr).drewN _)
          clear hwqw5 hn
          clear c0 c1 q0 q1
          have c0 := (hn5).chg.cellNever C0.out
          have c1 := (hn5).chg.cellNever C1.out
          have q0 := (hn5).chg.cellNever b0
          have q1 := (hn5).chg.cellNever b1
          go_wp2_with fail
          go_quiet (fail)
          generalize hwqw7 : World.drewN w5 _ = w7
          have hn7 := hwqw7 ▸ hn5.never ((Chg.refl Never w5).drewN _)
          clear hwqw7 hn5
          clear c0 c1 q0 q1
          have c0 := (hn7).chg.cellNever C0.out
          have c1 := (hn7).chg.cellNever C1.out
          have q0 := (hn7).chg.cellNever b0
          have q1 := (hn7).chg.cellNever b1
          have hyw8 : Dat.rd _ (fun k => Never k ∨ _ = some k) _ x := ⟨_, rfl, hps, hn7.away hlv⟩
          go_wp2_with (at_builtin; refine wpList_push (by rfl) _ _ 22 (by rfl) elemOk_file (O := Never) (l := L) (y := x) (by rfl) (by rfl) (by rfl) hn7.own hyw8 (fun _ h => h.elim) (by first | omega | (simp; omega)) ?_; intro vw8 w8 hown2 hc2 hk2; have hn8 := hn7.step1 hown2 hc2 hk2; clear hown2 hc2 hk2 hn7 hyw8; obtain ⟨vaw8, vnw8, vcw8, rfl⟩ := own_isSlice hn8.own)
          clear c0 c1 q0 q1
          have c0 := (hn8).chg.cellNever C0.out
          have c1 := (hn8).chg.cellNever C1.out
          have q0 := (hn8).chg.cellNever b0
          have q1 := (hn8).chg.cellNever b1
          go_wp2_with fail
          go_roundw
          case rel => exact ⟨k + 1, false, L ++ [x], by omega, by go_num, rfl, hn8, by first | omega | (simp; omega), HN⟩
          case measure => simp [intOf] <;> omega
        · have HN : Hid ((L ++ [f]) ++ putLoop f true (t.drop (k + 1)) = putLoop f false t) := by
            have e1 : leqB f.path x.path = true := leqB_true.2 (by rw [g]; exact less_irrefl _)
            rw [Hid, ← hP.out, HD.out, putLoop_step, e1]; simp [g]
          have a1 : Op.bytesLess f.path.toList x.path.toList = false := by rw [g]; exact bl_irrefl _
          have a2 : (f.path.toList == x.path.toList) = true := by rw [g]; exact beq_self_eq_true _
          have t1 : (x.path.toList == f.path.toList) = true := by rw [g]; exact beq_self_eq_true _
          clear g hP
          go_wp2_with fail
          go_quiet (fail)
          generalize hwqw5 : World.drewN wr _ = w5
          have hn5 := hwqw5 ▸ hn.never ((Chg.refl Never wr).drewN _)
          clear hwqw5 hn
          clear c0 c1 q0 q1
          have c0 := (hn5).chg.cellNever C0.out
          have c1 := (hn5).chg.cellNever C1.out
          have q0 := (hn5).chg.cellNever b0
          have q1 := (hn5).chg.cellNever b1
          have hyw6 : Dat.rd _ (fun k => Never k ∨ _ = some k) _ f := ⟨_, rfl, hp, hn5.away hf⟩
          go_wp2_with (at_builtin; refine wpList_push (by rfl) _ _ 22 (by rfl) elemOk_file (O := Never) (l := L) (y := f) (by rfl) (by rfl) (by rfl) hn5.own hyw6 (fun _ h => h.elim) (by first | omega | (simp; omega)) ?_; intro vw6 w6 hown2 hc2 hk2; have hn6 := hn5.step1 hown2 hc2 hk2; clear hown2 hc2 hk2 hn5 hyw6; obtain ⟨vaw6, vnw6, vcw6, rfl⟩ := own_isSlice hn6.own)
          clear c0 c1 q0 q1
          have c0 := (hn6).chg.cellNever C0.out
          have c1 := (hn6).chg.cellNever C1.out
          have q0 := (hn6).chg.cellNever b0
          have q1 := (hn6).chg.cellNever b1
          go_wp2_with fail
          go_quiet (fail)
          generalize hwqw7 : World.drewN w6 _ = w7
          have hn7 := hwqw7 ▸ hn6.never ((Chg.refl Never w6).drewN _)
          clear hwqw7 hn6
          clear c0 c1 q0 q1
          have c0 := (hn7).chg.cellNever C0.out
          have c1 := (hn7).chg.cellNever C1.out
          have q0 := (hn7).chg.cellNever b0
          have q1 := (hn7).chg.cellNever b1
          go_wp2_with fail
          go_roundw
          case rel => exact ⟨k + 1, true, L ++ [f], by omega, by go_num, rfl, hn7, by first | omega | (simp; omega), HN⟩
          case measure => simp [intOf] <;> omega
        · have HN : Hid ((L ++ [f] ++ [x]) ++ putLoop f true (t.drop (k + 1)) = putLoop f false t) := by
            have e1 : leqB f.path x.path = true := leqB_true.2 (less_asymm g)
            rw [Hid, ← hP.out, HD.out, putLoop_step, e1]; simp [(less_ne g).symm]
          have a1 : Op.bytesLess f.path.toList x.path.toList = true := g
          have t1 := str_beq_false (less_ne g).symm
          clear g hP
          go_wp2_with fail
          go_quiet (fail)
          generalize hwqw5 : World.drewN wr _ = w5
          have hn5 := hwqw5 ▸ hn.never ((Chg.refl Never wr).drewN _)
          clear hwqw5 hn
          clear c0 c1 q0 q1
          have c0 := (hn5).chg.cellNever C0.out
          have c1 := (hn5).chg.cellNever C1.out
          have q0 := (hn5).chg.cellNever b0
          have q1 := (hn5).chg.cellNever b1
          have hyw6 : Dat.rd _ (fun k => Never k ∨ _ = some k) _ f := ⟨_, rfl, hp, hn5.away hf⟩
          go_wp2_with (at_builtin; refine wpList_push (by rfl) _ _ 22 (by rfl) elemOk_file (O := Never) (l := L) (y := f) (by rfl) (by rfl) (by rfl) hn5.own hyw6 (fun _ h => h.elim) (by first | omega | (simp; omega)) ?_; intro vw6 w6 hown2 hc2 hk2; have hn6 := hn5.step1 hown2 hc2 hk2; clear hown2 hc2 hk2 hn5 hyw6; obtain ⟨vaw6, vnw6, vcw6, rfl⟩ := own_isSlice hn6.own)
          clear c0 c1 q0 q1
          have c0 := (hn6).chg.cellNever C0.out
          have c1 := (hn6).chg.cellNever C1.out
          have q0 := (hn6).chg.cellNever b0
          have q1 := (hn6).chg.cellNever b1
          go_wp2_with fail
          go_quiet (fail)
          generalize hwqw7 : World.drewN w6 _ = w7
          have hn7 := hwqw7 ▸ hn6.never ((Chg.refl Never w6).drewN _)
          clear hwqw7 hn6
          clear c0 c1 q0 q1
          have c0 := (hn7).chg.cellNever C0.out
          have c1 := (hn7).chg.cellNever C1.out
          have q0 := (hn7).chg.cellNever b0
          have q1 := (hn7).chg.cellNever b1
          have hyw8 : Dat.rd _ (fun k => Never k ∨ _ = some k) _ x := ⟨_, rfl, hps, hn7.away hlv⟩
          go_wp2_with (at_builtin; refine wpList_push (by rfl) _ _ 22 (by rfl) elemOk_file (O := Never) (l := L ++ [f]) (y := x) (by rfl) (by rfl) (by rfl) hn7.own hyw8 (fun _ h => h.elim) (by first | omega | (simp; omega)) ?_; intro vw8 w8 hown2 hc2 hk2; have hn8 := hn7.step1 hown2 hc2 hk2; clear hown2 hc2 hk2 hn7 hyw8; obtain ⟨vaw8, vnw8, vcw8, rfl⟩ := own_isSlice hn8.own)
          clear c0 c1 q0 q1
          have c0 := (hn8).chg.cellNever C0.out
          have c1 := (hn8).chg.cellNever C1.out
          have q0 := (hn8).chg.cellNever b0
          have q1 := (hn8).chg.cellNever b1
          go_wp2_with fail
          go_roundw
          case rel => exact ⟨k + 1, true, L ++ [f] ++ [x], by omega, by go_num, rfl, hn8, by first | omega | (simp; omega), HN⟩
          case measure => simp [intOf] <;> omega
    · have hP2 := hP.out
      rw [List.drop_eq_nil_of_le (by omega), putLoop] at hP2
      have HP := Lib.hid hP2
      clear hP hP2
      cases done with
      | true =>
        have HE : Hid (L = putLoop f false t) := by rw [Hid, ← HP.out]; simp
        go_wp2_with fail
        go_ret
        exact ⟨_, rfl, hA.trans hn.chg, by rw [← HE.out]; exact hn.own.rdv.sub (fun _ _ h => h.elim)⟩
      | false =>
        have HE : Hid (L ++ [f] = putLoop f false t) := by rw [Hid, ← HP.out]; simp
        have hyf : Dat.rd wr (fun k => Never k ∨ u5.ownBlock = some k) [.string f.path, .slice fa f.lines.length fcap] f := ⟨_, rfl, hp, hn.away hf⟩
        go_wp2_with (at_builtin; refine wpList_push (by rfl) _ _ 22 (by rfl) elemOk_file (O := Never) (l := L) (y := f) (by rfl) (by rfl) (by rfl) hn.own hyf (fun _ h => h.elim) (by omega) ?_; intro v' w2 hown2 hc2 hk2; have hn2 := hn.step1 hown2 hc2 hk2; clear hown2 hc2 hk2 hn hyf; obtain ⟨va, vn, vc, rfl⟩ := own_isSlice hn2.own)
        go_wp2_with fail
        go_ret
        exact ⟨_, rfl, hA.trans hn2.chg, by rw [← HE.out]; exact hn2.own.rdv.sub (fun _ _ h => h.elim)⟩
end Go.Proofs.YteocmmejfnmjcaaGreatDoor
