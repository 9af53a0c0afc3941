/-
  PARTS: THE WALK of (*loose).try.; HUNKS DONE FROM THE LAST ONE ON, in plain Lean: it comes to the same as from the first one on.
-/
import Derived.Test.YtjiaidchcldocaaGreatDoorPg1
import Derived.Test.YtjiaidchcldocaaGreatDoorPg2
import Derived.Test.YtjiaidchcldocaaGreatDoorPg3
import Derived.Test.YtjiaidchcldocaaGreatDoorPg4
import Derived.Test.YtjiaidchcldocaaGreatDoorPg5
import Derived.Test.YtjiaidchcldocaaGreatDoorPg6
import Derived.Test.YtjiaidchcldocaaGreatDoorPg7
import Derived.Test.YtjiaidchcldocaaGreatDoorPg8
import Derived.Test.YtjiaidchcldocaaGreatDoorPg9
import Derived.Test.YtjiaidchcldocaaGreatDoorPg10
import Derived.Test.YtjiaidchcldocaaGreatDoorPg11
import Derived.Test.YtjiaidchcldocaaGreatDoorPg12
import Derived.Test.YtjiaidchcldocaaGreatDoorPg13
import Derived.Test.YtjiaidchcldocaaGreatDoorPg14
import Derived.Test.YtjiaidchcldocaaGreatDoorPg15
import Derived.Test.YtjiaidchcldocaaGreatDoorPg16
import Derived.Test.YtjiaidchcldocaaGreatDoorPg17
import Derived.Test.YtjiaidchcldocaaGreatDoorPg18
import Derived.Test.YtjiaidchcldocaaGreatDoorPg19
import Derived.Test.YtjiaidchcldocaaGreatDoorPg20
import Derived.Test.YtjiaidchcldocaaGreatDoorPg21
import Derived.Test.YtjiaidchcldocaaGreatDoorPg22
import Derived.Test.YtjiaidchcldocaaGreatDoorPg23
import Derived.Test.YtjiaidchcldocaaGreatDoorPg24
import Derived.Test.YtjiaidchcldocaaGreatDoorPg25
import Derived.Test.YtjiaidchcldocaaGreatDoorPg26
import Derived.Test.YtjiaidchcldocaaGreatDoorPg27
import Derived.Test.YtjiaidchcldocaaGreatDoorPg28
import Derived.Test.YtjiaidchcldocaaGreatDoorPg29
import Derived.Test.YtjiaidchcldocaaGreatDoorPg30
import Derived.Test.YtjiaidchcldocaaGreatDoorPg31
import Derived.Test.YtjiaidchcldocaaGreatDoorPg32
import Derived.Test.YtjiaidchcldocaaGreatDoorPg33
import Derived.Test.YtjiaidchcldocaaGreatDoorPg34
import Derived.Test.YtjiaidchcldocaaGreatDoorPg35
import Derived.Test.YtjiaidchcldocaaGreatDoorPg36
import Derived.Test.YtjiaidchcldocaaGreatDoorPg37
import Derived.Test.YtjiaidchcldocaaGreatDoorPg38
import Derived.Test.YtjiaidchcldocaaGreatDoorQj3
import Derived.Deep.RegionWith
set_option linter.unusedVariables false
set_option linter.unusedSimpArgs false
namespace Go.Proofs.YtjiaidchcldocaaGreatDoor
open Go.RowKit

theorem trimmed_sub (f : Nat) (s : List Mark) : (∀ x ∈ trimmedOf f s, x ∈ s) ∧ (trimmedOf f s).length ≤ s.length := by
  unfold trimmedOf trimTail
  refine ⟨fun x hx => List.mem_of_mem_drop (List.mem_of_mem_take hx), ?_⟩
  rw [List.length_take, List.length_drop]; omega
theorem trimmed_fault {s : List Mark} (h : scriptFault s = 0) (f : Nat) : scriptFault (trimmedOf f s) = 0 := scriptFault_sub h (trimmed_sub f s).1 (trimmed_sub f s).2
theorem tryFrom_no {st : Loose} {h : Hunk} {far n f : Nat} (hr : roomB st (trimmedOf f h.marks) = false) : tryFrom st h far (n + 1) f = none := by
  rw [tryFrom, if_neg (by rw [hr]; decide)]
theorem tryFrom_next {st : Loose} {h : Hunk} {far n f : Nat} (hr : roomB st (trimmedOf f h.marks) = true) (hf : findOff st h f far = none) : tryFrom st h far (n + 1) f = tryFrom st h far n (f + 1) := by
  rw [tryFrom, if_pos hr, hf]
theorem tryFrom_hit {st : Loose} {h : Hunk} {far n f : Nat} {o : Int} (hr : roomB st (trimmedOf f h.marks) = true) (hf : findOff st h f far = some o) : tryFrom st h far (n + 1) f = some (f, o) := by
  rw [tryFrom, if_pos hr, hf]
theorem tryOf_eq_none {st : Loose} {h : Hunk} {fuzz far : Nat} (e : tryFrom st h far (fuzz + 1) 0 = none) : tryOf st h fuzz far = (st, none) := by unfold tryOf; rw [e]
theorem tryOf_eq_some {st : Loose} {h : Hunk} {fuzz far f : Nat} {o : Int} (e : tryFrom st h far (fuzz + 1) 0 = some (f, o)) : tryOf st h fuzz far = (doneAt st h f o, some o) := by unfold tryOf; rw [e]

/-- two by two: what is left to look at -/
def restOffs (j : Nat) (d : Int) (n : Nat) : List Int := ([-d, d].drop j) ++ offsFrom n (d + 1)

theorem index_two0 (x y : Value) (w : World) : (Instr.index 78 (.agg #[x, y]) (.int .i64 0)).run Tryz.prog w = .ok x w := by kernel_rfl
theorem index_two1 (x y : Value) (w : World) : (Instr.index 78 (.agg #[x, y]) (.int .i64 1)).run Tryz.prog w = .ok y w := by kernel_rfl
abbrev tLoose : TypeId := 175

set_option maxHeartbeats 4000000 in
set_option maxRecDepth 100000 in
theorem try_any (O : Nat → Prop) (st : Loose) (h : Hunk) (fuzz far W : Nat) (lv mv : Value) (w : World)
    (hB : Blk3 w W tLoose lv (.int .i64 st.fin) (.int .i64 st.more)) (hls : Rdv w (fun k => k = W ∨ O k) lv st.lines) (hO : ∀ k, O k → k < w.heap.size) (hm : Rdv w Never mv h.marks)
    (hfz : fuzz ≤ 3) (hfar : far ≤ 60) (hlen : st.lines.length ≤ 60) (f0 : 0 ≤ st.fin) (f1 : st.fin ≤ 60) (m0 : -10000 ≤ st.more) (m1 : st.more ≤ 10000) (o0 : 0 ≤ h.old) (o1 : h.old ≤ 60) (hs : scriptFault h.marks = 0) :
    Calls Tryz.prog 94 #[.pointer (some ⟨W, 0, none⟩), .agg #[.int .i64 h.old, .int .i64 h.new, mv], .int .i64 fuzz, .int .i64 far] w fun e w' =>
      ∃ lv', e = .returned (.tuple #[.int .i64 ((tryOf st h fuzz far).2.getD 0), .bool (tryOf st h fuzz far).2.isSome]) ∧ Chg (fun k => k = W) w w' ∧
        Blk3 w' W tLoose lv' (.int .i64 (tryOf st h fuzz far).1.fin) (.int .i64 (tryOf st h fuzz far).1.more) ∧ Rdv w' (fun k => k = W ∨ O k) lv' (tryOf st h fuzz far).1.lines := by
  have hml := scriptFault_len hs
  have HS := Lib.hid hs
  obtain ⟨la, lcap, rfl, l1, l2, _⟩ := rdv_slice hls
  obtain ⟨ma, mcap, rfl, _, _, _⟩ := rdv_slice hm
  unfold maxLen at l2
  have hA : Chg Never w (w.alloc (.cells #[.int .i64 h.old, .int .i64 h.new, .slice ma h.marks.length mcap] 129)) := (Chg.refl Never w).alloc _
  have hX := Blk3.new w 129 (.int .i64 h.old) (.int .i64 h.new) (.slice ma h.marks.length mcap)
  clear hs
  go_enter Tryz.func94, Tryz.ntmps94
  go_wp2_with fail
  go_loopw [23] (fun s23 wr => ∃ f : Nat, f ≤ fuzz + 1 ∧ s23 = .int .i64 f ∧ Chg Never w wr ∧ Blk3 wr w.heap.size 129 (.int .i64 h.old) (.int .i64 h.new) (.slice ma h.marks.length mcap) ∧ Hid (tryFrom st h far (fuzz + 1 - f) f = tryFrom st h far (fuzz + 1) 0)) (fun s23 _ => fuzz + 1 - (intOf s23).toNat)
  case atStart => exact ⟨0, Nat.zero_le _, rfl, hA, hX, rfl⟩
  case round =>
    clear hA hX
    obtain ⟨f, hf, rfl, hcW, hX, hT⟩ := hrel
    by_cases hlt : f < fuzz + 1
    · obtain ⟨x0, x1, x2⟩ := hX.cell
      have hlt' : decide ((f : Int) < (fuzz : Int) + 1) = true := by simp; omega
      go_wp2_with fail
      refine (trimmed_any Never h.marks f _ _ (hm.never hcW) (by omega) hml).mono ?_
      rintro e w2 ⟨r2, rfl, hc2, hr2⟩
      have hcW := hcW.trans hc2
      have hX := hX.keep hc2 (fun h => h)
      clear hc2 x0 x1 x2
      have hhn := (headN_le f h.marks).2
      go_wp2_with fail
      refine (sides_any (trimmedOf f h.marks) _ _ hr2 (trimmed_fault HS.out f)).mono ?_
      rintro e w3 ⟨ro, rn, rfl, hc3, hro, hrn⟩
      have hcW := hcW.trans hc3
      have hX := hX.keep hc3 (fun h => h)
      have hro := hro.sub (O' := Never) (fun _ _ h => h.elim)
      have hrn := hrn.sub (O' := Never) (fun _ _ h => h.elim)
      clear hc3 hr2
      obtain ⟨oa, ocap, rfl, _, _, _⟩ := rdv_slice hro
      obtain ⟨na, ncap, rfl, _, _, _⟩ := rdv_slice hrn
      have hBw := hB.keep hcW (fun h => h)
      obtain ⟨b0, b1, b2⟩ := hBw.cell
      have ho120 : (oldOf (trimmedOf f h.marks)).length ≤ 120 := Nat.le_trans (those_le _ _) (Nat.le_trans (trimmed_sub f h.marks).2 hml)
      have hn120 : (newOf (trimmedOf f h.marks)).length ≤ 120 := Nat.le_trans (those_le _ _) (Nat.le_trans (trimmed_sub f h.marks).2 hml)
      have hfs : fuzz + 1 - f = (fuzz + 1 - (f + 1)) + 1 := by omega
      have HFS := Lib.hid hfs
      clear hfs
      obtain ⟨x0, x1, x2⟩ := hX.cell
      cases hroom : roomB st (trimmedOf f h.marks) with
      | false =>
        have HE : Hid (tryOf st h fuzz far = (st, none)) := by
          refine tryOf_eq_none ?_
          rw [← hT.out, HFS.out, tryFrom_no hroom]
        have t1 : decide (60 < (st.lines.length : Int) - (oldOf (trimmedOf f h.marks)).length + (newOf (trimmedOf f h.marks)).length) = true := by
          unfold roomB at hroom
          rw [decide_eq_false_iff_not] at hroom
          rw [decide_eq_true_eq]
          have e1 : oldN (trimmedOf f h.marks) = (oldOf (trimmedOf f h.marks)).length := rfl
          have e2 : newN (trimmedOf f h.marks) = (newOf (trimmedOf f h.marks)).length := rfl
          omega
        clear hroom
        go_wp2_with fail
        go_ret2
        exact ⟨_, by rw [HE.out]; rfl, hcW.mono (fun _ _ h => h.elim), by rw [HE.out]; exact hBw, by rw [HE.out]; exact hls.keep hcW (fun _ _ h => h.elim) (fun _ _ h => h)⟩
      | true =>
        have t0 : (st.lines.length : Int) - (oldOf (trimmedOf f h.marks)).length + (newOf (trimmedOf f h.marks)).length ≤ 60 := by
          unfold roomB at hroom
          rw [decide_eq_true_eq] at hroom
          have e1 : oldN (trimmedOf f h.marks) = (oldOf (trimmedOf f h.marks)).length := rfl
          have e2 : newN (trimmedOf f h.marks) = (newOf (trimmedOf f h.marks)).length := rfl
          omega
        have t1 : decide (60 < (st.lines.length : Int) - (oldOf (trimmedOf f h.marks)).length + (newOf (trimmedOf f h.marks)).length) = false := by
          rw [decide_eq_false_iff_not]; omega
        have HR := Lib.hid hroom
        clear hroom
        go_wp2_with fail
        go_quiet (fail)
        generalize hw4 : World.drewN w3 _ = w4
        have hcW : Chg Never w w4 := hw4 ▸ hcW.drewN _
        have hX : Blk3 w4 w.heap.size 129 (.int .i64 h.old) (.int .i64 h.new) (.slice ma h.marks.length mcap) := hw4 ▸ hX
        have hro : Rdv w4 Never (.slice oa (oldOf (trimmedOf f h.marks)).length ocap) (oldOf (trimmedOf f h.marks)) := hw4 ▸ hro.never ((Chg.refl Never w3).drewN _)
        have hrn : Rdv w4 Never (.slice na (newOf (trimmedOf f h.marks)).length ncap) (newOf (trimmedOf f h.marks)) := hw4 ▸ hrn.never ((Chg.refl Never w3).drewN _)
        clear hw4 hBw b0 b1 b2 x0 x1 x2
        have hw0 : -11000 ≤ h.old + st.more + (headN f h.marks : Int) := by omega
        have hw1 : h.old + st.more + (headN f h.marks : Int) ≤ 11000 := by omega
        have HW : Hid (wantedAt st h f = h.old + st.more + (headN f h.marks : Int)) := rfl
        generalize h.old + st.more + (headN f h.marks : Int) = wd at HW hw0 hw1 ⊢
        have H0 : Hid (findOff st h f far = (offsFrom (far + 1 - 0) ((0 : Nat) : Int)).find? fun o => okAt st (wd + o) (oldOf (trimmedOf f h.marks))) := by unfold Hid findOff; rw [HW.out]; rfl
        go_wp2_with fail
        go_loopw [66] (fun s66 wr => ∃ d : Nat, d ≤ far + 1 ∧ s66 = .int .i64 d ∧ Chg Never w wr ∧ Blk3 wr w.heap.size 129 (.int .i64 h.old) (.int .i64 h.new) (.slice ma h.marks.length mcap) ∧
            Rdv wr Never (.slice oa (oldOf (trimmedOf f h.marks)).length ocap) (oldOf (trimmedOf f h.marks)) ∧ Rdv wr Never (.slice na (newOf (trimmedOf f h.marks)).length ncap) (newOf (trimmedOf f h.marks)) ∧
            Hid (findOff st h f far = (offsFrom (far + 1 - d) (d : Int)).find? fun o => okAt st (wd + o) (oldOf (trimmedOf f h.marks)))) (fun s66 _ => far + 1 - (intOf s66).toNat)
        case atStart => exact ⟨0, Nat.zero_le _, rfl, hcW, hX, hro, hrn, H0.out⟩
        case round =>
          clear hcW hX hro hrn H0
          obtain ⟨d, hd, rfl, hcW, hX, hro, hrn, hF⟩ := hrel
          by_cases hdl : d < far + 1
          · have hdl' : decide ((d : Int) < (far : Int) + 1) = true := by simp; omega
            have HD1 : Hid (findOff st h f far = (restOffs 0 d (far - d)).find? fun o => okAt st (wd + o) (oldOf (trimmedOf f h.marks))) := by
              unfold Hid
              rw [hF.out, show far + 1 - d = (far - d) + 1 by omega, offsFrom]
              rfl
            clear hF
            go_wp2_with fail
            go_loopw [73] (fun s73 wr => ∃ j : Nat, j ≤ 2 ∧ s73 = .int .i64 j ∧ Chg Never w wr ∧ Blk3 wr w.heap.size 129 (.int .i64 h.old) (.int .i64 h.new) (.slice ma h.marks.length mcap) ∧
                Rdv wr Never (.slice oa (oldOf (trimmedOf f h.marks)).length ocap) (oldOf (trimmedOf f h.marks)) ∧ Rdv wr Never (.slice na (newOf (trimmedOf f h.marks)).length ncap) (newOf (trimmedOf f h.marks)) ∧
                Hid (findOff st h f far = (restOffs j d (far - d)).find? fun o => okAt st (wd + o) (oldOf (trimmedOf f h.marks)))) (fun s73 _ => 2 - (intOf s73).toNat)
            case atStart => exact ⟨0, Nat.zero_le _, rfl, hcW, hX, hro, hrn, HD1.out⟩
            case round =>
              clear hcW hX hro hrn HD1
              obtain ⟨j, hj, rfl, hcW, hX, hro, hrn, hF⟩ := hrel
              have hBw := hB.keep hcW (fun h => h)
              obtain ⟨b0, b1, b2⟩ := hBw.cell
              have hlsw : Rdv wr Never (.slice la st.lines.length lcap) st.lines := hls.keep hcW (fun _ _ h => h.elim) (fun _ _ h => h.elim)
              have hix0 := index_two0 (.int .i64 (-(d : Int))) (.int .i64 d)
              have hix1 := index_two1 (.int .i64 (-(d : Int))) (.int .i64 d)
              by_cases hj2 : j < 2
              · rcases (show j = 0 ∨ j = 1 by omega) with rfl | rfl
                · by_cases hfin : st.fin ≤ wd + (-(d : Int))
                  · have q1 : decide (st.fin ≤ wd + (-(d : Int))) = true := decide_eq_true hfin
                    cases hst : standsB st.lines (wd + (-(d : Int))) (oldOf (trimmedOf f h.marks)) with
                    | false =>
                      have HF2 : Hid (findOff st h f far = (restOffs (0 + 1) d (far - d)).find? fun o => okAt st (wd + o) (oldOf (trimmedOf f h.marks))) := by
                        unfold Hid
                        rw [hF.out]
                        have : okAt st (wd + (-(d : Int))) (oldOf (trimmedOf f h.marks)) = false := by unfold okAt; rw [hst]; simp
                        simp only [restOffs, List.drop, List.cons_append, List.nil_append, List.find?_cons, this]
                      clear hF
                      go_wp2_with fail
                      refine (stands_any st.lines (oldOf (trimmedOf f h.marks)) (wd + (-(d : Int))) _ _ _ hlsw hro (by omega) (by omega) (by omega) (by omega)).mono ?_
                      rintro e w6 ⟨rfl, hc6⟩
                      rw [hst]
                      clear hst hlsw
                      go_wp2_with fail
                      go_roundw
                      case rel => exact ⟨0 + 1, by omega, by go_num, hcW.trans hc6, hX.keep hc6 (fun h => h), hro.never hc6, hrn.never hc6, HF2.out⟩
                      case measure => simp [intOf] <;> omega
                    | true =>
                      have HIT : Hid (tryOf st h fuzz far = (doneAt st h f (-(d : Int)), some (-(d : Int)))) := by
                        refine tryOf_eq_some ?_
                        rw [← hT.out, HFS.out]
                        refine tryFrom_hit HR.out ?_
                        rw [hF.out]
                        have : okAt st (wd + (-(d : Int))) (oldOf (trimmedOf f h.marks)) = true := by unfold okAt; rw [hst, q1]; rfl
                        simp only [restOffs, List.drop, List.cons_append, List.nil_append, List.find?_cons, this]
                      clear hF
                      obtain ⟨nn, hnn⟩ := Int.eq_ofNat_of_zero_le (stands_split hst).1
                      have hle := (stands_split hst).2.1
                      rw [hnn, Int.toNat_natCast] at hle
                      have HN := Lib.hid hnn
                      have hat0 : 0 ≤ wd + (-(d : Int)) := by omega
                      have hat1 : wd + (-(d : Int)) + (oldOf (trimmedOf f h.marks)).length ≤ st.lines.length := by omega
                      obtain ⟨sb1, u0, u1, hrunH, hsub1⟩ := slice_gen (P := Tryz.prog) (t := 86) (by kernel_rfl) size_str hlsw 0 nn (Nat.zero_le _) (by omega)
                      have hrunH := fun (wx : World) => hrunH (wd + (-(d : Int))) wx rfl hnn
                      clear u0 u1
                      rw [Nat.sub_zero, Nat.sub_zero] at hrunH hsub1
                      rw [List.drop_zero] at hsub1
                      obtain ⟨sb2, u0, hrunL, u1, hsub2⟩ := slice_gen (P := Tryz.prog) (t := 86) (by kernel_rfl) size_str hlsw (nn + (oldOf (trimmedOf f h.marks)).length) st.lines.length hle (Nat.le_refl _)
                      have hrunL := fun (wx : World) => hrunL (wd + (-(d : Int)) + (oldOf (trimmedOf f h.marks)).length) wx (by rw [hnn]; push_cast; rfl) rfl
                      clear u0 u1
                      rw [List.take_of_length_le (by rw [List.length_drop]; omega)] at hsub2
                      have HFL : Hid ([st.lines.take nn, newOf (trimmedOf f h.marks), st.lines.drop (nn + (oldOf (trimmedOf f h.marks)).length)].flatten = (doneAt st h f (-(d : Int))).lines) := by
                        have e1 : (wantedAt st h f + (-(d : Int))).toNat = nn := by rw [HW.out, hnn, Int.toNat_natCast]
                        have e2 : oldN (trimmedOf f h.marks) = (oldOf (trimmedOf f h.marks)).length := rfl
                        unfold Hid doneAt
                        simp only [e1, e2]
                        simp
                      have HFI : Hid ((doneAt st h f (-(d : Int))).fin = wd + (-(d : Int)) + (newOf (trimmedOf f h.marks)).length) := by
                        have e1 : (wantedAt st h f + (-(d : Int))).toNat = nn := by rw [HW.out, hnn, Int.toNat_natCast]
                        unfold Hid doneAt
                        simp only [e1]
                        rw [hnn]; rfl
                      have HMO : Hid ((doneAt st h f (-(d : Int))).more = st.more + ((newOf (trimmedOf f h.marks)).length - (oldOf (trimmedOf f h.marks)).length)) := by
                        unfold Hid doneAt
                        have e2 : oldN (trimmedOf f h.marks) = (oldOf (trimmedOf f h.marks)).length := rfl
                        have e3 : newN (trimmedOf f h.marks) = (newOf (trimmedOf f h.marks)).length := rfl
                        simp only [e2, e3]
                        omega
                      have hb : [st.lines.take nn, newOf (trimmedOf f h.marks), st.lines.drop (nn + (oldOf (trimmedOf f h.marks)).length)].flatten.length ≤ 1000000 := by
                        simp only [List.flatten_cons, List.flatten_nil, List.length_append, List.length_take, List.length_drop, List.length_nil]
                        omega
                      have HB0 := Lib.hid hb
                      have hTL : (st.lines.take nn).length = nn := by rw [List.length_take]; omega
                      have hDL : (st.lines.drop (nn + (oldOf (trimmedOf f h.marks)).length)).length = st.lines.length - (nn + (oldOf (trimmedOf f h.marks)).length) := List.length_drop
                      have hsub1 : Rdv wr Never (.slice sb1 nn lcap) (st.lines.take nn) := hsub1
                      have HTL := Lib.hid hTL
                      have HDL := Lib.hid hDL
                      have HST := Lib.hid hst
                      clear hnn hb hTL hDL hst
                      go_wp2_with fail
                      refine (stands_any st.lines (oldOf (trimmedOf f h.marks)) (wd + (-(d : Int))) _ _ _ hlsw hro (by omega) (by omega) (by omega) (by omega)).mono ?_
                      rintro e w6 ⟨rfl, hc6⟩
                      rw [HST.out]
                      have hcW6 := hcW.trans hc6
                      have hBw6 := hBw.keep hc6 (fun h => h)
                      have hs1 := hsub1.never hc6
                      have hs2 := hrn.never hc6
                      have hs3 := hsub2.never hc6
                      have hcd : Chg Never w w6.drew := hcW6.drew
                      have hBd : Blk3 w6.drew W tLoose (.slice la st.lines.length lcap) (.int .i64 st.fin) (.int .i64 st.more) := hBw6
                      have hs1 : Rdv w6.drew Never _ _ := hs1.never ((Chg.refl Never w6).drew)
                      have hs2 : Rdv w6.drew Never _ _ := hs2.never ((Chg.refl Never w6).drew)
                      have hs3 : Rdv w6.drew Never _ _ := hs3.never ((Chg.refl Never w6).drew)
                      obtain ⟨b0, b1, b2⟩ := hBw6.cell
                      obtain ⟨d0, d1, d2⟩ := hBd.cell
                      have hWl := hB.lt
                      have hwr : IntKind.i64.wrap (wd + (-(d : Int)) + ((oldOf (trimmedOf f h.marks)).length : Int)) = wd + (-(d : Int)) + (oldOf (trimmedOf f h.marks)).length := IntWalk.i64_in _ (by omega)
                      clear hsub1 hsub2 hrn hro hc6 hBw hBw6 hcW6 hlsw
                      go_wp2_with fail
                      go_region_with ((go_at_call 145; refine (concat_any [st.lines.take nn, newOf (trimmedOf f h.marks), st.lines.drop (nn + (oldOf (trimmedOf f h.marks)).length)] _ _ (rdv_lit (e := 86) (cs := [_, _, _]) (heap_alloc_new _ _) rfl (by simp) ⟨hs1.never ((Chg.refl Never _).alloc _), hs2.never ((Chg.refl Never _).alloc _), hs3.never ((Chg.refl Never _).alloc _), trivial⟩) HB0.out).mono ?_; rintro e w7 ⟨r7, rfl, hc7, hown7⟩; obtain ⟨ra, rn, rc, rfl⟩ := own_isSlice hown7; have hB7 := hBd.keep (((Chg.refl Never _).alloc _).trans hc7) (fun h => h); have g0 := hB7.cell; have g3 := hB7.free))
                      all_goals
                        obtain ⟨g0, g1, g2⟩ := g0
                        have hB8 := hB7.set0 (.slice ra rn rc)
                        obtain ⟨k0, k1, k2⟩ := hB8.cell
                        have k3 := hB8.free
                        have hB9 := hB8.set1 (.int .i64 (wd + (-(d : Int)) + (newOf (trimmedOf f h.marks)).length))
                        obtain ⟨k4, k5, k6⟩ := hB9.cell
                        have k7 := hB9.free
                        have hsz : w.heap.size ≤ w6.heap.size := hcd.size
                        have hC7 : Chg (fun k => k = W) w w7 := (((hcd.alloc _).trans hc7)).mono (fun _ _ h => h.elim)
                        clear hrunH hrunL hwr b0 b1 b2 d0 d1 d2 hs1 hs2 hs3
                        go_wp2_with fail
                        go_ret2
                        refine ⟨.slice ra rn rc, by rw [HIT.out]; rfl, ((hC7.setCell (p := ⟨W, 0, none⟩) (.inr rfl) _).setCell (p := ⟨W, 1, none⟩) (.inr rfl) _).setCell (p := ⟨W, 2, none⟩) (.inr rfl) _, ?_, ?_⟩
                        · rw [HIT.out]
                          show Blk3 _ W tLoose _ (.int .i64 (doneAt st h f (-(d : Int))).fin) (.int .i64 (doneAt st h f (-(d : Int))).more)
                          rw [HFI.out, HMO.out]
                          exact hB9.set2 _
                        · rw [HIT.out]
                          show Rdv _ _ _ (doneAt st h f (-(d : Int))).lines
                          rw [← HFL.out]
                          refine (hown7.keep (O' := fun k => k = W) (O'' := fun k => k = W ∨ O k) ((((Chg.refl (fun k => k = W) w7).setCell (p := ⟨W, 0, none⟩) (.inr rfl) _).setCell (p := ⟨W, 1, none⟩) (.inr rfl) _).setCell (p := ⟨W, 2, none⟩) (.inr rfl) _) ?_ ?_).rdv
                          · intro k _ hk
                            unfold Old
                            rw [World.size_alloc]
                            show k < w6.heap.size + 1
                            omega
                          · intro k _ hk
                            unfold Old
                            rw [World.size_alloc]
                            show k < w6.heap.size + 1
                            rcases hk with hk | hk
                            · omega
                            · have := hO k hk
                              omega
                  · have q1 : decide (st.fin ≤ wd + (-(d : Int))) = false := decide_eq_false hfin
                    have HF2 : Hid (findOff st h f far = (restOffs (0 + 1) d (far - d)).find? fun o => okAt st (wd + o) (oldOf (trimmedOf f h.marks))) := by
                      unfold Hid
                      rw [hF.out]
                      have : okAt st (wd + (-(d : Int))) (oldOf (trimmedOf f h.marks)) = false := by unfold okAt; rw [q1]; rfl
                      simp only [restOffs, List.drop, List.cons_append, List.nil_append, List.find?_cons, this]
                    clear hF
                    go_wp2_with fail
                    go_roundw
                    case rel => exact ⟨0 + 1, by omega, by go_num, hcW, hX, hro, hrn, HF2.out⟩
                    case measure => simp [intOf] <;> omega
                · by_cases hfin : st.fin ≤ wd + (d : Int)
                  · have q1 : decide (st.fin ≤ wd + (d : Int)) = true := decide_eq_true hfin
                    cases hst : standsB st.lines (wd + (d : Int)) (oldOf (trimmedOf f h.marks)) with
                    | false =>
                      have HF2 : Hid (findOff st h f far = (restOffs (1 + 1) d (far - d)).find? fun o => okAt st (wd + o) (oldOf (trimmedOf f h.marks))) := by
                        unfold Hid
                        rw [hF.out]
                        have : okAt st (wd + (d : Int)) (oldOf (trimmedOf f h.marks)) = false := by unfold okAt; rw [hst]; simp
                        simp only [restOffs, List.drop, List.cons_append, List.nil_append, List.find?_cons, this]
                      clear hF
                      go_wp2_with fail
                      refine (stands_any st.lines (oldOf (trimmedOf f h.marks)) (wd + (d : Int)) _ _ _ hlsw hro (by omega) (by omega) (by omega) (by omega)).mono ?_
                      rintro e w6 ⟨rfl, hc6⟩
                      rw [hst]
                      clear hst hlsw
                      go_wp2_with fail
                      go_roundw
                      case rel => exact ⟨1 + 1, by omega, by go_num, hcW.trans hc6, hX.keep hc6 (fun h => h), hro.never hc6, hrn.never hc6, HF2.out⟩
                      case measure => simp [intOf] <;> omega
                    | true =>
                      have HIT : Hid (tryOf st h fuzz far = (doneAt st h f (d : Int), some (d : Int))) := by
                        refine tryOf_eq_some ?_
                        rw [← hT.out, HFS.out]
                        refine tryFrom_hit HR.out ?_
                        rw [hF.out]
                        have : okAt st (wd + (d : Int)) (oldOf (trimmedOf f h.marks)) = true := by unfold okAt; rw [hst, q1]; rfl
                        simp only [restOffs, List.drop, List.cons_append, List.nil_append, List.find?_cons, this]
                      clear hF
                      obtain ⟨nn, hnn⟩ := Int.eq_ofNat_of_zero_le (stands_split hst).1
                      have hle := (stands_split hst).2.1
                      rw [hnn, Int.toNat_natCast] at hle
                      have HN := Lib.hid hnn
                      have hat0 : 0 ≤ wd + (d : Int) := by omega
                      have hat1 : wd + (d : Int) + (oldOf (trimmedOf f h.marks)).length ≤ st.lines.length := by omega
                      obtain ⟨sb1, u0, u1, hrunH, hsub1⟩ := slice_gen (P := Tryz.prog) (t := 86) (by kernel_rfl) size_str hlsw 0 nn (Nat.zero_le _) (by omega)
                      have hrunH := fun (wx : World) => hrunH (wd + (d : Int)) wx rfl hnn
                      clear u0 u1
                      rw [Nat.sub_zero, Nat.sub_zero] at hrunH hsub1
                      rw [List.drop_zero] at hsub1
                      obtain ⟨sb2, u0, hrunL, u1, hsub2⟩ := slice_gen (P := Tryz.prog) (t := 86) (by kernel_rfl) size_str hlsw (nn + (oldOf (trimmedOf f h.marks)).length) st.lines.length hle (Nat.le_refl _)
                      have hrunL := fun (wx : World) => hrunL (wd + (d : Int) + (oldOf (trimmedOf f h.marks)).length) wx (by rw [hnn]; push_cast; rfl) rfl
                      clear u0 u1
                      rw [List.take_of_length_le (by rw [List.length_drop]; omega)] at hsub2
                      have HFL : Hid ([st.lines.take nn, newOf (trimmedOf f h.marks), st.lines.drop (nn + (oldOf (trimmedOf f h.marks)).length)].flatten = (doneAt st h f (d : Int)).lines) := by
                        have e1 : (wantedAt st h f + (d : Int)).toNat = nn := by rw [HW.out, hnn, Int.toNat_natCast]
                        have e2 : oldN (trimmedOf f h.marks) = (oldOf (trimmedOf f h.marks)).length := rfl
                        unfold Hid doneAt
                        simp only [e1, e2]
                        simp
                      have HFI : Hid ((doneAt st h f (d : Int)).fin = wd + (d : Int) + (newOf (trimmedOf f h.marks)).length) := by
                        have e1 : (wantedAt st h f + (d : Int)).toNat = nn := by rw [HW.out, hnn, Int.toNat_natCast]
                        unfold Hid doneAt
                        simp only [e1]
                        rw [hnn]; rfl
                      have HMO : Hid ((doneAt st h f (d : Int)).more = st.more + ((newOf (trimmedOf f h.marks)).length - (oldOf (trimmedOf f h.marks)).length)) := by
                        unfold Hid doneAt
                        have e2 : oldN (trimmedOf f h.marks) = (oldOf (trimmedOf f h.marks)).length := rfl
                        have e3 : newN (trimmedOf f h.marks) = (newOf (trimmedOf f h.marks)).length := rfl
                        simp only [e2, e3]
                        omega
                      have hb : [st.lines.take nn, newOf (trimmedOf f h.marks), st.lines.drop (nn + (oldOf (trimmedOf f h.marks)).length)].flatten.length ≤ 1000000 := by
                        simp only [List.flatten_cons, List.flatten_nil, List.length_append, List.length_take, List.length_drop, List.length_nil]
                        omega
                      have HB0 := Lib.hid hb
                      have hTL : (st.lines.take nn).length = nn := by rw [List.length_take]; omega
                      have hDL : (st.lines.drop (nn + (oldOf (trimmedOf f h.marks)).length)).length = st.lines.length - (nn + (oldOf (trimmedOf f h.marks)).length) := List.length_drop
                      have hsub1 : Rdv wr Never (.slice sb1 nn lcap) (st.lines.take nn) := hsub1
                      have HTL := Lib.hid hTL
                      have HDL := Lib.hid hDL
                      have HST := Lib.hid hst
                      clear hnn hb hTL hDL hst
                      go_wp2_with fail
                      refine (stands_any st.lines (oldOf (trimmedOf f h.marks)) (wd + (d : Int)) _ _ _ hlsw hro (by omega) (by omega) (by omega) (by omega)).mono ?_
                      rintro e w6 ⟨rfl, hc6⟩
                      rw [HST.out]
                      have hcW6 := hcW.trans hc6
                      have hBw6 := hBw.keep hc6 (fun h => h)
                      have hs1 := hsub1.never hc6
                      have hs2 := hrn.never hc6
                      have hs3 := hsub2.never hc6
                      have hcd : Chg Never w w6.drew := hcW6.drew
                      have hBd : Blk3 w6.drew W tLoose (.slice la st.lines.length lcap) (.int .i64 st.fin) (.int .i64 st.more) := hBw6
                      have hs1 : Rdv w6.drew Never _ _ := hs1.never ((Chg.refl Never w6).drew)
                      have hs2 : Rdv w6.drew Never _ _ := hs2.never ((Chg.refl Never w6).drew)
                      have hs3 : Rdv w6.drew Never _ _ := hs3.never ((Chg.refl Never w6).drew)
                      obtain ⟨b0, b1, b2⟩ := hBw6.cell
                      obtain ⟨d0, d1, d2⟩ := hBd.cell
                      have hWl := hB.lt
                      have hwr : IntKind.i64.wrap (wd + (d : Int) + ((oldOf (trimmedOf f h.marks)).length : Int)) = wd + (d : Int) + (oldOf (trimmedOf f h.marks)).length := IntWalk.i64_in _ (by omega)
                      clear hsub1 hsub2 hrn hro hc6 hBw hBw6 hcW6 hlsw
                      go_wp2_with fail
                      go_region_with ((go_at_call 145; refine (concat_any [st.lines.take nn, newOf (trimmedOf f h.marks), st.lines.drop (nn + (oldOf (trimmedOf f h.marks)).length)] _ _ (rdv_lit (e := 86) (cs := [_, _, _]) (heap_alloc_new _ _) rfl (by simp) ⟨hs1.never ((Chg.refl Never _).alloc _), hs2.never ((Chg.refl Never _).alloc _), hs3.never ((Chg.refl Never _).alloc _), trivial⟩) HB0.out).mono ?_; rintro e w7 ⟨r7, rfl, hc7, hown7⟩; obtain ⟨ra, rn, rc, rfl⟩ := own_isSlice hown7; have hB7 := hBd.keep (((Chg.refl Never _).alloc _).trans hc7) (fun h => h); have g0 := hB7.cell; have g3 := hB7.free))
                      all_goals
                        obtain ⟨g0, g1, g2⟩ := g0
                        have hB8 := hB7.set0 (.slice ra rn rc)
                        obtain ⟨k0, k1, k2⟩ := hB8.cell
                        have k3 := hB8.free
                        have hB9 := hB8.set1 (.int .i64 (wd + (d : Int) + (newOf (trimmedOf f h.marks)).length))
                        obtain ⟨k4, k5, k6⟩ := hB9.cell
                        have k7 := hB9.free
                        have hsz : w.heap.size ≤ w6.heap.size := hcd.size
                        have hC7 : Chg (fun k => k = W) w w7 := (((hcd.alloc _).trans hc7)).mono (fun _ _ h => h.elim)
                        clear hrunH hrunL hwr b0 b1 b2 d0 d1 d2 hs1 hs2 hs3
                        go_wp2_with fail
                        go_ret2
                        refine ⟨.slice ra rn rc, by rw [HIT.out]; rfl, ((hC7.setCell (p := ⟨W, 0, none⟩) (.inr rfl) _).setCell (p := ⟨W, 1, none⟩) (.inr rfl) _).setCell (p := ⟨W, 2, none⟩) (.inr rfl) _, ?_, ?_⟩
                        · rw [HIT.out]
                          show Blk3 _ W tLoose _ (.int .i64 (doneAt st h f (d : Int)).fin) (.int .i64 (doneAt st h f (d : Int)).more)
                          rw [HFI.out, HMO.out]
                          exact hB9.set2 _
                        · rw [HIT.out]
                          show Rdv _ _ _ (doneAt st h f (d : Int)).lines
                          rw [← HFL.out]
                          refine (hown7.keep (O' := fun k => k = W) (O'' := fun k => k = W ∨ O k) ((((Chg.refl (fun k => k = W) w7).setCell (p := ⟨W, 0, none⟩) (.inr rfl) _).setCell (p := ⟨W, 1, none⟩) (.inr rfl) _).setCell (p := ⟨W, 2, none⟩) (.inr rfl) _) ?_ ?_).rdv
                          · intro k _ hk
                            unfold Old
                            rw [World.size_alloc]
                            show k < w6.heap.size + 1
                            omega
                          · intro k _ hk
                            unfold Old
                            rw [World.size_alloc]
                            show k < w6.heap.size + 1
                            rcases hk with hk | hk
                            · omega
                            · have := hO k hk
                              omega
                  · have q1 : decide (st.fin ≤ wd + (d : Int)) = false := decide_eq_false hfin
                    have HF2 : Hid (findOff st h f far = (restOffs (1 + 1) d (far - d)).find? fun o => okAt st (wd + o) (oldOf (trimmedOf f h.marks))) := by
                      unfold Hid
                      rw [hF.out]
                      have : okAt st (wd + (d : Int)) (oldOf (trimmedOf f h.marks)) = false := by unfold okAt; rw [q1]; rfl
                      simp only [restOffs, List.drop, List.cons_append, List.nil_append, List.find?_cons, this]
                    clear hF
                    go_wp2_with fail
                    go_roundw
                    case rel => exact ⟨1 + 1, by omega, by go_num, hcW, hX, hro, hrn, HF2.out⟩
                    case measure => simp [intOf] <;> omega
              · obtain rfl : j = 2 := by omega
                go_wp2_with fail
                go_roundw
                case rel => exact ⟨d + 1, by omega, by go_num, hcW, hX, hro, hrn, by
                  have := hF.out
                  rw [Hid, this, show far + 1 - (d + 1) = far - d by omega]
                  rfl⟩
                case measure => simp [intOf] <;> omega
          · obtain rfl : d = far + 1 := by omega
            have hN : Hid (findOff st h f far = none) := by
              unfold Hid
              rw [hF.out, Nat.sub_self]
              rfl
            have HT2 : Hid (tryFrom st h far (fuzz + 1 - (f + 1)) (f + 1) = tryFrom st h far (fuzz + 1) 0) := by
              unfold Hid
              rw [← hT.out, HFS.out, tryFrom_next HR.out hN.out]
            go_wp2_with fail
            go_roundw
            case rel => exact ⟨f + 1, by omega, by go_num, hcW, hX, HT2.out⟩
            case measure => simp [intOf] <;> omega
    · obtain rfl : f = fuzz + 1 := by omega
      have HE : Hid (tryOf st h fuzz far = (st, none)) := by
        refine tryOf_eq_none ?_
        rw [← hT.out, Nat.sub_self]
        rfl
      have hBw := hB.keep hcW (fun h => h)
      go_wp2_with fail
      go_ret2
      exact ⟨_, by rw [HE.out]; rfl, hcW.mono (fun _ _ h => h.elim), by rw [HE.out]; exact hBw, by rw [HE.out]; exact hls.keep hcW (fun _ _ h => h.elim) (fun _ _ h => h)⟩
end Go.Proofs.YtjiaidchcldocaaGreatDoor
namespace Go.Proofs.YtjiaidchcldocaaGreatDoor

theorem hOk_old : ∀ (l : List Hunk) (fin more : Int), hOk fin more l → ∀ h ∈ l, 0 ≤ h.old ∧ h.old ≤ 60
  | [], _, _, _, h, hh => by simp at hh
  | x :: r, fin, more, hk, h, hh => by
    rcases List.mem_cons.1 hh with rfl | hh
    · obtain ⟨_, _, z3, _, z5, _⟩ := oneFault_zero hk.1
      exact ⟨z3, by omega⟩
    · exact hOk_old r _ _ hk.2 h hh
end Go.Proofs.YtjiaidchcldocaaGreatDoor
