/-
  PARTS: THE LAW TopUndone, walked.; THE LAW TopAgain, walked.
-/
import Derived.Test.YtjiaidchcldocaaGreatDoorPg1
import Derived.Test.YtjiaidchcldocaaGreatDoorPg2
import Derived.Test.YtjiaidchcldocaaGreatDoorPg3
import Derived.Test.YtjiaidchcldocaaGreatDoorPg4
import Derived.Test.YtjiaidchcldocaaGreatDoorPg5
import Derived.Test.YtjiaidchcldocaaGreatDoorPg6
import Derived.Test.YtjiaidchcldocaaGreatDoorPg7
import Derived.Test.YtjiaidchcldocaaGreatDoorPg8
import Derived.Test.YtjiaidchcldocaaGreatDoorPg9
import Derived.Test.YtjiaidchcldocaaGreatDoorPg10
import Derived.Test.YtjiaidchcldocaaGreatDoorPg11
import Derived.Test.YtjiaidchcldocaaGreatDoorPg12
import Derived.Test.YtjiaidchcldocaaGreatDoorPg13
import Derived.Test.YtjiaidchcldocaaGreatDoorPg14
import Derived.Test.YtjiaidchcldocaaGreatDoorPg15
import Derived.Test.YtjiaidchcldocaaGreatDoorPg16
import Derived.Test.YtjiaidchcldocaaGreatDoorPg17
import Derived.Test.YtjiaidchcldocaaGreatDoorPg18
import Derived.Test.YtjiaidchcldocaaGreatDoorPg19
import Derived.Test.YtjiaidchcldocaaGreatDoorPg20
import Derived.Test.YtjiaidchcldocaaGreatDoorPg21
import Derived.Test.YtjiaidchcldocaaGreatDoorPg22
import Derived.Test.YtjiaidchcldocaaGreatDoorPg23
import Derived.Test.YtjiaidchcldocaaGreatDoorPg24
import Derived.Test.YtjiaidchcldocaaGreatDoorPg25
import Derived.Test.YtjiaidchcldocaaGreatDoorPg26
import Derived.Test.YtjiaidchcldocaaGreatDoorPg27
import Derived.Test.YtjiaidchcldocaaGreatDoorPg28
import Derived.Test.YtjiaidchcldocaaGreatDoorPg29
import Derived.Test.YtjiaidchcldocaaGreatDoorPg30
import Derived.Test.YtjiaidchcldocaaGreatDoorPg31
import Derived.Test.YtjiaidchcldocaaGreatDoorPg32
import Derived.Test.YtjiaidchcldocaaGreatDoorPg33
import Derived.Test.YtjiaidchcldocaaGreatDoorPg34
import Derived.Test.YtjiaidchcldocaaGreatDoorPg35
import Derived.Test.YtjiaidchcldocaaGreatDoorPg36
import Derived.Test.YtjiaidchcldocaaGreatDoorPg37
import Derived.Test.YtjiaidchcldocaaGreatDoorPg38
import Derived.Test.YtjiaidchcldocaaGreatDoorQh5
import Derived.Deep.RegionHeld3
set_option linter.unusedVariables false
set_option linter.unusedSimpArgs false
namespace Go.Proofs.YtjiaidchcldocaaGreatDoor
open Go.RowKit

/-- each patch that was found leads from the one tree to the next, and turned back -/
theorem found_leads {n : Int} {t : List (List File)} (h : foundF n t = 0) {k : Nat} {a b : List File} (ha : t[k]? = some a) (hb : t[k + 1]? = some b) (hk : k + 1 < 6) :
    (foundL n t)[k]? = some (diffL n a b) ∧ Tree a ∧ Tree b ∧ 0 ≤ n ∧ n ≤ 1000 ∧ Patch (diffL n a b) ∧ applyR a (diffL n a b) = (b, 0, 0) ∧ applyR b (turnP (diffL n a b)) = (a, 0, 0) := by
  obtain ⟨q1, q2, q3, q4⟩ := diffFault_zero (found_zero h ha hb hk)
  have TA := tree_iff.2 q1
  have TB := tree_iff.2 q2
  have M := diff_makes TA TB q3 q4
  exact ⟨(found_get ha hb hk).2, TA, TB, q3, q4, (diff_leads TA TB q3 q4).1, M.1, M.2⟩
end Go.Proofs.YtjiaidchcldocaaGreatDoor
namespace Go.Proofs.YtjiaidchcldocaaGreatDoor
open Go.RowKit

theorem size_chgs (w : World) : (sizeOf (Tryz.prog.elem 22)).run Tryz.prog w = .ok 1 w := by kernel_rfl
theorem found_fine {n : Int} {t : List (List File)} (h : foundF n t = 0) : ∀ c ∈ foundL n t, (patchFault c).2 = 0 := fun c hc => by
  obtain ⟨k, hk⟩ := List.mem_iff_getElem?.1 hc
  have hl := (List.getElem?_eq_some_iff.1 hk).1
  rw [found_len] at hl
  obtain ⟨f1, _, _, _, _, f2, _, _⟩ := found_leads (n := n) h (k := k) (List.getElem?_eq_getElem (by omega)) (List.getElem?_eq_getElem (by omega)) (by omega)
  rw [f1] at hk
  injection hk with hk
  rw [← hk, patch_ok f2]
set_option maxHeartbeats 1000000 in
set_option maxRecDepth 100000 in
theorem law_topAgain (t : List (List File)) (n c0 : Int) (vt : Value) (w : World) (ht : Rdv w Never vt t) (hn : I64 n) (hc0 : I64 c0) (m : Int) (hm : w.cell? ⟨1, 0, none⟩ = some (.int .i64 m)) (hg : Globs w m) :
    Calls Tryz.prog 8 #[vt, .int .i64 n, .int .i64 c0] w fun e w' => e = .returned (.bool true) ∧ Chg Never w w' := by
  obtain ⟨a, cap, rfl, h1, h2, h3⟩ := rdv_slice ht
  unfold maxLen at h2
  go_enter Tryz.func8, Tryz.ntmps8
  go_wp2_with fail
  refine (top_one _ m hg).mono ?_
  rintro e w1 ⟨rfl, hw⟩
  go_wp2_with fail
  refine (top_found t n _ _ (ht.never hw) hn m (hw.cellNever hm)).mono ?_
  rintro e w2 ⟨rp, rfl, hc2, hrp⟩
  have hw := hw.trans hc2
  clear hc2
  by_cases hz : foundF n t = 0
  · rw [show (foundF n t == 0) = true by rw [hz]; rfl]
    rw [show foundR n t = foundL n t from if_pos hz] at hrp
    have HPF := Lib.hid (found_fine hz)
    generalize foundL n t = p at hrp HPF
    obtain ⟨pa, pc, rfl, p1, p2, p3⟩ := rdv_slice hrp
    unfold maxLen at p2
    clear hz h3 ht
    by_cases hp1 : p.length < 1
    · have t1 : decide ((p.length : Int) < 1) = true := decide_eq_true (by omega)
      clear hrp p3
      go_wp2_with fail
      go_ret
      exact ⟨rfl, hw⟩
    · have t1 : decide ((p.length : Int) < 1) = false := decide_eq_false (by omega)
      by_cases hp4 : 4 < p.length
      · have t2 : decide ((4 : Int) < (p.length : Int)) = true := decide_eq_true (by omega)
        clear hrp p3
        go_wp2_with fail
        go_ret
        exact ⟨rfl, hw⟩
      · have t2 : decide ((4 : Int) < (p.length : Int)) = false := decide_eq_false (by omega)
        go_wp2_with fail
        clear t1 t2
        go_loopw [10] (fun iv wr => ∃ i : Nat, i ≤ p.length ∧ iv = .int .i64 i ∧ Chg Never w2 wr ∧ Hid (∀ (a b : Nat) (c : List Change), a < b → b < i → p[a]? = some c → p[b]? ≠ some c)) (fun iv _ => p.length - (intOf iv).toNat)
        case atStart => exact ⟨0, Nat.zero_le _, rfl, Chg.refl _ _, fun a b c _ q => absurd q (Nat.not_lt_zero b)⟩
        case round =>
          obtain ⟨i, hi, rfl, hc, hd⟩ := hrel
          rename World => wr
          by_cases hil : i < p.length
          · obtain ⟨x, hx⟩ : ∃ x, p[i]? = some x := ⟨p[i]'(by omega), List.getElem?_eq_getElem (by omega)⟩
            have hc3 := Chg.refl Never wr
            go_wp2_with fail
            go_loopw [11] (fun jv wi => ∃ j : Nat, j ≤ i ∧ jv = .int .i64 j ∧ Chg Never wr wi ∧ Hid (∀ (a : Nat) (c : List Change), a < j → p[a]? = some c → p[i]? ≠ some c)) (fun jv _ => i - (intOf jv).toNat)
            case atStart => exact ⟨0, Nat.zero_le _, rfl, hc3, fun a c q => absurd q (Nat.not_lt_zero a)⟩
            case round =>
              clear hc3
              obtain ⟨j, hj, rfl, hci, hdi⟩ := hrel
              rename World => wi
              by_cases hji : j < i
              · obtain ⟨y, hy⟩ : ∃ y, p[j]? = some y := ⟨p[j]'(by omega), List.getElem?_eq_getElem (by omega)⟩
                obtain ⟨b, off, xv, rfl, _, _, d0, hxv⟩ := elems_row p3 hx
                obtain ⟨b', off', yv, epp, _, _, e0, hyv⟩ := elems_row p3 hy
                injection epp with epp
                injection epp with epp1 epp2 _
                subst epp1; subst epp2
                have hcc := hc.trans hci
                have d0 := hcc.cellNever d0
                have e0 := hcc.cellNever e0
                have hxv := hxv.never hcc
                have hyv := hyv.never hcc
                obtain ⟨xa, xc, rfl, _, _, _⟩ := rdv_slice hxv
                obtain ⟨ya, yc, rfl, _, _, _⟩ := rdv_slice hyv
                have b1 : (i : Int) < (p.length : Int) := by omega
                have b2 : (j : Int) < (p.length : Int) := by omega
                have t3 : decide ((j : Int) < (i : Int)) = true := decide_eq_true (by omega)
                have HX := Lib.hid hx
                have HY := Lib.hid hy
                have hjp : j < p.length := by omega
                clear hx hy p3
                go_wp2_with fail
                refine wp_region_held_drew (S := fun w' => Chg Never wi w' ∧ w'.cell? ⟨b, off + i, none⟩ = some (.slice xa x.length xc) ∧ w'.cell? ⟨b, off + j, none⟩ = some (.slice ya y.length yc)) (by kernel_rfl) ⟨(Chg.refl Never wi).drew, d0, e0⟩ (fun hH => ?_)
                refine' tk 0 ?_
                refine' tk 1 ?_
                refine' tk 2 ?_
                refine' tk 3 ?_
                refine' tk 4 ?_
                refine' tk 5 ?_
                refine' tk 6 ?_
                refine' tk 7 ?_
                refine wpAnyH_ready (rs := [8]) (by kernel_rfl) (by simp) ?_
                refine AllReadyH.cons rfl (fun K hK => ?_) AllReadyH.nil
                go_simp
                (go_at_call 28; refine (patches_any x y _ _ _ (hxv.never (And.left (by assumption))) (hyv.never (And.left (by assumption)))).mono ?_; rintro e wq ⟨rfl, hcq⟩; have hS2 := two_keep (by assumption) hcq)
                try go_wp2_with fail
                refine hK.out _ _ ?_ (fun hH => ?_)
                · assumption
                clear hK K
                try simp only [Act.put, List.setIfInBounds_toArray, List.set_cons_zero, List.set_cons_succ]
                by_cases hxy : x = y
                · rw [decide_eq_true hxy]
                  refine' tk 9 ?_
                  refine wpAnyH_done (by kernel_rfl) ?_ _
                  have hcf := ((hw.trans hcc).drew).trans hcq
                  clear hxy hH hS2 d0 e0 hdi hd
                  go_wp2_with fail
                  go_ret
                  exact ⟨rfl, hcf⟩
                · rw [decide_eq_false hxy]
                  have HD : Hid (∀ (a : Nat) (c : List Change), a < j + 1 → p[a]? = some c → p[i]? ≠ some c) := fun a c ha hc q => by
                    by_cases e : a = j
                    · subst e
                      rw [HY.out] at hc
                      rw [HX.out] at q
                      injection hc with hc
                      injection q with q
                      exact hxy (q.trans hc.symm)
                    · exact hdi.out a c (by omega) hc q
                  refine' tk 9 ?_
                  refine wpAnyH_done (by kernel_rfl) ?_ _
                  have hcf := (hci.drew).trans hcq
                  clear hxy hH hS2 d0 e0 hdi hd
                  go_wp2_with fail
                  go_roundw
                  case rel => exact ⟨j + 1, by omega, by go_num, hcf, HD⟩
                  case measure => simp [intOf] <;> omega
              · have t3 : decide ((j : Int) < (i : Int)) = false := decide_eq_false (by omega)
                have HD : Hid (∀ (a b : Nat) (c : List Change), a < b → b < i + 1 → p[a]? = some c → p[b]? ≠ some c) := fun a b c hab hb hc q => by
                  by_cases e : b = i
                  · subst e
                    exact hdi.out a c (by omega) hc q
                  · exact hd.out a b c hab (by omega) hc q
                have hcc := hc.trans hci
                clear hdi hd hx p3
                go_wp2_with fail
                go_roundw
                case rel => exact ⟨i + 1, by omega, by go_num, hcc, HD⟩
                case measure => simp [intOf] <;> omega
          · obtain rfl : i = p.length := by omega
            have HD : Hid (∀ (j k : Nat) (c : List Change), p[j]? = some c → p[k]? = some c → j = k) := fun j k c hj hk => by
              have h1 := (List.getElem?_eq_some_iff.1 hj).1
              have h2 := (List.getElem?_eq_some_iff.1 hk).1
              rcases Nat.lt_trichotomy j k with q | q | q
              · exact absurd hk (hd.out j k c q h2 hj)
              · exact q
              · exact absurd hj (hd.out k j c q h1 hk)
            have hwr := hw.trans hc
            have hrp := hrp.never hc
            clear hd p3
            go_wp2_with fail
            refine (pick_any c0 p.length _ hc0 (by omega) (by omega)).mono ?_
            rintro e w5 ⟨i, hi, rfl, rfl⟩
            rename World => wr
            have HR := Lib.hid (again_range hi (by omega) HPF.out (fun c hc => by unfold rtextOf; rw [List.length_map]; exact linesG_few (HPF.out c hc)) HD.out)
            have sN : IntKind.i64.wrap ((i : Int) + 1) = (i : Int) + 1 := IntWalk.i64_in _ (by omega)
            obtain ⟨sb1, u0, u1, hrunH, hsub1⟩ := slice_gen (P := Tryz.prog) (t := 22) (by kernel_rfl) size_chgs hrp 0 i (Nat.zero_le _) (by omega)
            have hrunH := fun (wx : World) => hrunH i wx rfl rfl
            clear u0 u1
            rw [Nat.sub_zero, Nat.sub_zero] at hrunH hsub1
            rw [List.drop_zero] at hsub1
            obtain ⟨sb2, u0, hrunL, u1, hsub2⟩ := slice_gen (P := Tryz.prog) (t := 22) (by kernel_rfl) size_chgs hrp (i + 1) p.length (by omega) (Nat.le_refl _)
            have hrunL := fun (wx : World) => hrunL ((i : Int) + 1) wx (by push_cast; rfl) rfl
            clear u0 u1
            rw [List.take_of_length_le (by rw [List.length_drop]; omega)] at hsub2
            have hn0 := ownN_nil (α := List Change) 51 (Chg.refl Never wr)
            have hle1 : ([] : List (List Change)).length + (p.take i).length ≤ 1000000000 := by simp; omega
            have hle2 : (p.take i).length + (p.drop (i + 1)).length ≤ 1000000000 := by simp; omega
            have hsub1 := hn0.away hsub1
            obtain ⟨T, hT⟩ : ∃ T, p.take i = T := ⟨_, rfl⟩
            obtain ⟨D, hD⟩ : ∃ D, p.drop (i + 1) = D := ⟨_, rfl⟩
            rw [hT] at hsub1 hle1 hle2 HR
            rw [hD] at hsub2 hle2 HR
            clear hT hD HD HPF
            go_wp2_with (first
              | (at_builtin; refine wpList_many2 (by rfl) _ _ 22 (by rfl) elemOk_changes (O := Never) (l := []) (m := T) (by rfl) (by rfl) hn0.own hsub1 (fun _ h => h.elim) hle1 ?_; intro v1 w1 hw1 hd1 hk1; have hn1 := hn0.step hw1 hd1 hk1; rw [List.nil_append] at hn1; have hs2 := hn1.away hsub2; clear hw1 hd1 hk1 hn0 hsub1 hsub2; obtain ⟨s1, n1, c1, rfl⟩ := own_isSlice hn1.own)
              | (at_builtin; refine wpList_many2 (by rfl) _ _ 22 (by rfl) elemOk_changes (O := Never) (l := T) (m := D) (by rfl) (by rfl) hn1.own hs2 (fun _ h => h.elim) hle2 ?_; intro v2 w2 hw2 hd2 hk2; have hn2 := hn1.step hw2 hd2 hk2; clear hw2 hd2 hk2 hn1 hs2; obtain ⟨s2, n2, c2, rfl⟩ := own_isSlice hn2.own))
            have hwq := hwr.trans hn2.chg
            refine (range_any p (T ++ D) _ _ _ (hrp.never hn2.chg) hn2.own.rdv m (hwq.cellNever hm)).mono ?_
            rintro e w8 ⟨r8, rfl, hc8, hr8⟩
            have hw8 := hwq.trans hc8
            rw [HR.out.1, errV_zero]
            rw [HR.out.2] at hr8
            obtain ⟨xa, xc, rfl, x1, x2, x3⟩ := rdv_slice hr8
            rw [List.length_map, List.length_range] at x1 ⊢
            have u1 : ((p.length : Int) != (p.length : Int)) = false := by simp
            have u2 : ((p.length : Int) == (p.length : Int)) = true := by simp
            clear hn2 hwq hc8 hr8 HR hrp hle1 hle2 sN
            go_wp2_with fail
            clear u1 u2
            go_loopw [17] (fun jv wz => ∃ j : Nat, j ≤ p.length ∧ jv = .int .i64 j ∧ Chg Never w8 wz) (fun jv _ => p.length - (intOf jv).toNat)
            case atStart => exact ⟨0, Nat.zero_le _, rfl, Chg.refl _ _⟩
            case round =>
              obtain ⟨j, hj, rfl, hc⟩ := hrel
              rename World => wz
              by_cases hjl : j < p.length
              · obtain ⟨b, off, rfl, -, cx, cy⟩ := elems_pair x3 (i := j) (x := ((j : Int), wantI i j)) (by rw [List.getElem?_map, List.getElem?_range hjl]; rfl)
                have cx := hc.cellNever cx
                have cy := hc.cellNever cy
                have b1 : (j : Int) < (p.length : Int) := by omega
                simp only at cx cy
                unfold wantI at cy
                clear x3
                by_cases e1 : j = i
                · rw [if_pos e1] at cy
                  have v1 : ((j : Int) == (i : Int)) = true := beq_iff_eq.2 (by omega)
                  have v2 : ((j : Int) != (i : Int)) = false := by rw [bne, v1]; rfl
                  have v3 : decide ((i : Int) < (j : Int)) = false := decide_eq_false (by omega)
                  have v3n : decide (i < j) = false := decide_eq_false (by omega)
                  clear e1
                  have pe : ∀ wx, (Op.equalIn 10000 78 (.agg #[.int .i64 j, .int .i64 (-1)]) (.agg #[.int .i64 j, .int .i64 (-1)])).run Tryz.prog wx = .ok true wx := fun wx => by rw [pair_eq]; simp
                  go_wp2_with fail
                  go_roundw
                  case rel => exact ⟨j + 1, by omega, by go_num, hc⟩
                  case measure => simp [intOf] <;> omega
                · rw [if_neg e1] at cy
                  have v1 : ((j : Int) == (i : Int)) = false := by rw [beq_eq_false_iff_ne]; omega
                  have v2 : ((j : Int) != (i : Int)) = true := by rw [bne, v1]; rfl
                  by_cases e2 : i < j
                  · rw [if_pos e2] at cy
                    have v3 : decide ((i : Int) < (j : Int)) = true := decide_eq_true (by omega)
                    have v3n : decide (i < j) = true := decide_eq_true (by omega)
                    have sN : IntKind.i64.wrap ((j : Int) - 1) = (j : Int) - 1 := IntWalk.i64_in _ (by omega)
                    clear e1 e2
                    have pe : ∀ wx, (Op.equalIn 10000 78 (.agg #[.int .i64 j, .int .i64 ((j : Int) - 1)]) (.agg #[.int .i64 j, .int .i64 ((j : Int) - 1)])).run Tryz.prog wx = .ok true wx := fun wx => by rw [pair_eq]; simp
                    go_wp2_with fail
                    go_roundw
                    case rel => exact ⟨j + 1, by omega, by go_num, hc⟩
                    case measure => simp [intOf] <;> omega
                  · rw [if_neg e2] at cy
                    have v3 : decide ((i : Int) < (j : Int)) = false := decide_eq_false (by omega)
                    have v3n : decide (i < j) = false := decide_eq_false (by omega)
                    clear e1 e2
                    have pe : ∀ wx, (Op.equalIn 10000 78 (.agg #[.int .i64 j, .int .i64 (j)]) (.agg #[.int .i64 j, .int .i64 (j)])).run Tryz.prog wx = .ok true wx := fun wx => by rw [pair_eq]; simp
                    go_wp2_with fail
                    go_roundw
                    case rel => exact ⟨j + 1, by omega, by go_num, hc⟩
                    case measure => simp [intOf] <;> omega
              · clear x3
                go_wp2_with fail
                go_ret
                exact ⟨rfl, hw8.trans hc⟩
  · rw [show (foundF n t == 0) = false by rw [beq_eq_false_iff_ne]; exact hz]
    obtain ⟨pa, pc, rfl, _, _, _⟩ := rdv_slice hrp
    clear hz hrp
    go_wp2_with fail
    go_ret
    exact ⟨rfl, hw⟩
end Go.Proofs.YtjiaidchcldocaaGreatDoor
