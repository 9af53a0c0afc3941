/-
  PARTS: THE WALK of patch.Diff.
-/
import Derived.Test.YtjiaidchcldocaaGreatDoorPg1
import Derived.Test.YtjiaidchcldocaaGreatDoorPg27
import Derived.Test.YtjiaidchcldocaaGreatDoorPg29
import Derived.Test.YtjiaidchcldocaaGreatDoorPg14
import Derived.Test.YtjiaidchcldocaaGreatDoorPg18
import Derived.Test.YtjiaidchcldocaaGreatDoorPg24
import Derived.Test.YtjiaidchcldocaaGreatDoorPg12
import Derived.Deep.RegionHeld3
import Derived.BigQuiet
set_option linter.unusedVariables false
set_option linter.unusedSimpArgs false
namespace Go.Proofs.YtjiaidchcldocaaGreatDoor
open Go.RowKit

def diffFault (a b : List File) (n : Int) : Int := if (treeFault a).2 ≠ 0 then (treeFault a).2 else if (treeFault b).2 ≠ 0 then (treeFault b).2 else if n < 0 ∨ 1000 < n then 1 else 0
def diffR (a b : List File) (n : Int) : List Change := if diffFault a b n = 0 then diffL n a b else []
theorem diffFault_a {a b : List File} {n : Int} (h : (treeFault a).2 ≠ 0) : diffFault a b n = (treeFault a).2 := if_pos h
theorem diffFault_b {a b : List File} {n : Int} (h : (treeFault a).2 = 0) (g : (treeFault b).2 ≠ 0) : diffFault a b n = (treeFault b).2 := by unfold diffFault; rw [if_neg (by rw [h]; decide), if_pos g]
theorem diffFault_n {a b : List File} {n : Int} (h : (treeFault a).2 = 0) (g : (treeFault b).2 = 0) (hn : n < 0 ∨ 1000 < n) : diffFault a b n = 1 := by unfold diffFault; rw [if_neg (by rw [h]; decide), if_neg (by rw [g]; decide), if_pos hn]
theorem diffFault_0 {a b : List File} {n : Int} (h : (treeFault a).2 = 0) (g : (treeFault b).2 = 0) (n0 : 0 ≤ n) (n1 : n ≤ 1000) : diffFault a b n = 0 := by unfold diffFault; rw [if_neg (by rw [h]; decide), if_neg (by rw [g]; decide), if_neg (by omega)]
theorem diffR_bad {a b : List File} {n : Int} (h : diffFault a b n ≠ 0) : diffR a b n = [] := if_neg h
theorem diffR_ok {a b : List File} {n : Int} (h : diffFault a b n = 0) : diffR a b n = diffL n a b := if_pos h
def sliceLen : Value → Nat
  | .slice _ n _ => n
  | _ => 0
theorem cons_of_get {α : Type} {l : List α} {x : α} (h : l[0]? = some x) : l = x :: l.drop 1 := by
  cases l with
  | nil => cases h
  | cons y r => simp at h; subst h; rfl
theorem diffG_take {n : Int} {x : File} {a b : List File} (hx : a[0]? = some x) (h : b = [] ∨ ∃ y, b[0]? = some y ∧ less x.path y.path = true) : diffL n a b = [⟨3, x.path, wholeR x.lines 45⟩] ++ diffL n (a.drop 1) b := by
  have e := cons_of_get hx
  generalize a.drop 1 = r at e ⊢
  subst e
  exact diffL_take (h.imp_right fun ⟨y, h1, h2⟩ => ⟨y, _, cons_of_get h1, h2⟩)
theorem diffG_put {n : Int} {y : File} {a b : List File} (hy : b[0]? = some y) (h : a = [] ∨ ∃ x, a[0]? = some x ∧ ¬ less x.path y.path = true ∧ less y.path x.path = true) : diffL n a b = [⟨2, y.path, wholeR y.lines 43⟩] ++ diffL n a (b.drop 1) := by
  have e := cons_of_get hy
  generalize b.drop 1 = r at e ⊢
  subst e
  exact diffL_put (h.imp_right fun ⟨x, h1, h2⟩ => ⟨x, _, cons_of_get h1, h2⟩)
theorem diffG_both {n : Int} {x y : File} {a b : List File} (hx : a[0]? = some x) (hy : b[0]? = some y) (h : ¬ less x.path y.path = true) (g : ¬ less y.path x.path = true) : diffL n a b = chg n x.path (some x.lines) (some y.lines) ++ diffL n (a.drop 1) (b.drop 1) := by
  have e := cons_of_get hx
  have e2 := cons_of_get hy
  generalize a.drop 1 = r at e ⊢
  generalize b.drop 1 = s at e2 ⊢
  subst e
  subst e2
  exact diffL_both h g
/-- the files of a tree are valid -/
def AllFine (a : List File) : Prop := ∀ f ∈ a, fileFault f = 0
theorem AllFine.get {a : List File} (h : AllFine a) {x : File} (hx : a[0]? = some x) : linesFault x.lines = 0 := fileFault_lines (h x (List.mem_of_getElem? hx))
theorem AllFine.drop {a : List File} (h : AllFine a) : AllFine (a.drop 1) := fun f hf => h f (List.mem_of_mem_drop hf)

def DiffPostO (a b : List File) (n : Int) (w : World) (e : Ending) (w' : World) : Prop := ∃ r, e = .returned (.tuple #[r, errV (diffFault a b n)]) ∧ Chg Never w w' ∧ Rdv w' (Old w.heap.size) r (diffR a b n)
theorem diffPost_bad {a b : List File} {n k : Int} {w w' : World} (h : diffFault a b n = k) (hk : k ≠ 0) (hc : Chg Never w w') : DiffPostO a b n w (.returned (.tuple #[.slice none 0 0, errV k])) w' :=
  ⟨_, by rw [h], hc, by rw [diffR_bad (by rw [h]; exact hk)]; exact rdv_nil _ _⟩
theorem diffPost_ok {a b : List File} {n : Int} {w w' : World} {r : Value} (h : diffFault a b n = 0) (hc : Chg Never w w') (hr : Rdv w' (Old w.heap.size) r (diffL n a b)) : DiffPostO a b n w (.returned (.tuple #[r, .nilIface])) w' :=
  ⟨r, by rw [h, errV_zero], hc, by rw [diffR_ok h]; exact hr⟩
set_option maxHeartbeats 4000000 in
set_option maxRecDepth 100000 in
theorem diff_old (a b : List File) (n : Int) (va vb : Value) (w : World) (ha : Rdv w Never va a) (hb : Rdv w Never vb b) (hn : I64 n) (m : Int) (hm : w.cell? ⟨1, 0, none⟩ = some (.int .i64 m)) :
    Calls Tryz.prog 25 #[va, vb, .int .i64 n] w fun e w' => DiffPostO a b n w e w' := by
  obtain ⟨a0, acap0, rfl, _, _, _⟩ := rdv_slice ha
  obtain ⟨b0, bcap0, rfl, _, _, _⟩ := rdv_slice hb
  have x0 : ∀ wx, (Instr.index 130 (.agg #[.slice a0 a.length acap0, .slice b0 b.length bcap0]) (.int .i64 0)).run Tryz.prog wx = .ok (.slice a0 a.length acap0) wx := fun _ => by kernel_rfl
  have x1 : ∀ wx, (Instr.index 130 (.agg #[.slice a0 a.length acap0, .slice b0 b.length bcap0]) (.int .i64 1)).run Tryz.prog wx = .ok (.slice b0 b.length bcap0) wx := fun _ => by kernel_rfl
  unfold I64 at hn
  go_enter Tryz.func25, Tryz.ntmps25
  go_wp2_with fail
  go_loopw [18] (fun i wL => ∃ k : Nat, k ≤ 2 ∧ i = .int .i64 k ∧ Chg Never w wL ∧ Hid ((1 ≤ k → (treeFault a).2 = 0) ∧ (2 ≤ k → (treeFault b).2 = 0))) (fun i _ => 2 - (intOf i).toNat)
  case atStart => exact ⟨0, by decide, rfl, Chg.refl _ _, by omega, by omega⟩
  case round =>
    rename World => wL
    obtain ⟨k, hk, rfl, hc, hF⟩ := hrel
    rcases Nat.lt_or_ge k 2 with hlt | hge
    · rcases Nat.eq_zero_or_pos k with rfl | hpos
      · go_wp2_with fail
        refine (tree_check_any a _ _ (ha.never hc) m (hc.cellNever hm)).mono ?_
        rintro e w2 ⟨rfl, hc2⟩
        have hc := hc.trans hc2
        clear hc2
        by_cases z : (treeFault a).2 = 0
        · have Z := Lib.hid z
          rw [z, errV_zero]
          clear z
          go_wp2_with fail
          go_roundw
          case rel => exact ⟨1, by decide, rfl, hc, fun _ => Z.out, by omega⟩
          case measure => simp [intOf]
        · rw [errV_pos z]
          have E := diffPost_bad (n := n) (w := w) (diffFault_a (b := b) (n := n) z) z hc
          rw [errV_pos z] at E
          clear z
          go_wp2_with fail
          go_ret2
          exact E
      · obtain rfl : k = 1 := by omega
        go_wp2_with fail
        refine (tree_check_any b _ _ (hb.never hc) m (hc.cellNever hm)).mono ?_
        rintro e w2 ⟨rfl, hc2⟩
        have hc := hc.trans hc2
        clear hc2
        by_cases z : (treeFault b).2 = 0
        · have Z := Lib.hid z
          rw [z, errV_zero]
          clear z
          go_wp2_with fail
          go_roundw
          case rel => exact ⟨2, by decide, rfl, hc, fun _ => hF.out.1 (by decide), fun _ => Z.out⟩
          case measure => simp [intOf]
        · rw [errV_pos z]
          have E := diffPost_bad (n := n) (w := w) (diffFault_b (n := n) (hF.out.1 (by decide)) z) z hc
          rw [errV_pos z] at E
          clear z
          go_wp2_with fail
          go_ret2
          exact E
    · obtain rfl : k = 2 := by omega
      have ta := hF.out.1 (by decide)
      have tb := hF.out.2 (by decide)
      clear hF x0 x1
      by_cases hr : n < 0 ∨ 1000 < n
      · have E := diffPost_bad (w := w) (diffFault_n ta tb hr) (by decide) hc
        clear ta tb
        rcases hr with hr | hr
        · go_wp2_with fail
          go_ret2
          exact E
        · have h0 : ¬ n < 0 := by omega
          go_wp2_with fail
          go_ret2
          exact E
      · have n0 : 0 ≤ n := by omega
        have n1 : n ≤ 1000 := by omega
        have EE : Hid (∀ (w' : World) (r : Value), Chg Never w w' → Rdv w' (Old w.heap.size) r (diffL n a b) → DiffPostO a b n w (.returned (.tuple #[r, .nilIface])) w') := fun w' r h1 h2 => diffPost_ok (diffFault_0 ta tb n0 n1) h1 h2
        have FA := Lib.hid (show AllFine a from (treeFault_zero ta).2.1)
        have FB := Lib.hid (show AllFine b from (treeFault_zero tb).2.1)
        have la := (treeFault_zero ta).1
        have lb := (treeFault_zero tb).1
        have HA := Lib.hid (ha.never hc)
        have HB := Lib.hid (hb.never hc)
        clear ta tb hr ha hb
        have hn0 := ownO_nil (α := Change) 85 (Chg.refl Never wL)
        go_wp2_with fail
        go_loopw [0, 1, 12] (fun v u o wr => ∃ (A B : List File) (L : List Change), Rdv wL Never v A ∧ Rdv wL Never u B ∧ OwnO 85 wL wr o L ∧ Hid (AllFine A) ∧ Hid (AllFine B) ∧ A.length + B.length + L.length ≤ 16 ∧ Hid (L ++ diffL n A B = diffL n a b)) (fun v u _ _ => sliceLen v + sliceLen u)
        case atStart => exact ⟨a, b, [], HA.out, HB.out, hn0, FA, FB, by simp; omega, by unfold Hid; rw [List.nil_append]⟩
        case round =>
          clear hn0 la lb FA FB HA HB
          rename World => wr
          obtain ⟨A, B, L, hA, hB, hn, FA, FB, hlen, HL⟩ := hrel
          obtain ⟨oa, on, oc, rfl⟩ := own_isSlice hn.own
          obtain ⟨aa, acap, rfl, a1, a2, a3⟩ := rdv_slice hA
          obtain ⟨ba, bcap, rfl, b1, b2, b3⟩ := rdv_slice hB
          unfold maxLen at a2 b2
          have hLl : L.length ≤ 1000000000 := by omega
          rcases Nat.eq_zero_or_pos A.length with hA0 | hA0
          · obtain rfl : A = [] := List.eq_nil_of_length_eq_zero hA0
            clear a3
            rcases Nat.eq_zero_or_pos B.length with hB0 | hB0
            · obtain rfl : B = [] := List.eq_nil_of_length_eq_zero hB0
              have HLo := HL.out
              rw [diffL_nil, List.append_nil] at HLo
              have HLO := Lib.hid HLo
              clear HLo
              go_wp2_with fail
              go_ret2
              exact EE.out _ _ (hc.trans hn.chg) (by rw [← HLO.out]; exact hn.own.rdv.sub (fun _ _ h => Nat.lt_of_lt_of_le h hc.size))
            · obtain ⟨y, hy⟩ : ∃ y, B[0]? = some y := ⟨B[0], by simp [hB0]⟩
              obtain ⟨yb, yo, yv, rfl, _, _, d0, d1, hpy, hly⟩ := elems_file b3 hy
              simp only [Nat.zero_mul, Nat.add_zero] at d0 d1
              have HLY := Lib.hid hly
              have FY := Lib.hid (FB.out.get hy)
              have hyl := linesFault_len FY.out
              obtain ⟨ya, ycap, rfl, _, _, _⟩ := rdv_slice hly
              have D0 := Lib.hid d0
              have D1 := Lib.hid d1
              have d0 := hn.chg.cellNever d0
              have d1 := hn.chg.cellNever d1
              have HY := Lib.hid hy
              obtain ⟨sb, _, hrunB, _, hsb⟩ := slice_gen (P := Tryz.prog) (t := 41) (by kernel_rfl) size_file hB 1 B.length (by omega) (Nat.le_refl _)
              have hrunB := fun (wx : World) => hrunB 1 wx rfl rfl
              rw [List.take_of_length_le (Nat.le_of_eq List.length_drop)] at hsb
              have hdb : (B.drop 1).length = B.length - 1 := List.length_drop
              have q0 : ((B.length : Int) == 0) = false := beq_eq_false_iff_ne.2 (by omega)
              have q1 : decide ((B.length : Int) > 0) = true := by simp; omega
              clear hy hly
              have HG := Lib.hid (diffG_put (n := n) (a := []) HY.out (.inl rfl))
              clear b3
              go_wp2_with fail
              go_quiet (fail)
              generalize hqq : World.drewN wr _ = wr2
              have hn := hqq ▸ hn.never ((Chg.refl Never wr).drewN _)
              clear hqq
              try clear c0 c1
              try clear d0 d1
              try have c0 := hn.chg.cellNever C0.out
              try have c1 := hn.chg.cellNever C1.out
              try have d0 := hn.chg.cellNever D0.out
              try have d1 := hn.chg.cellNever D1.out
              go_wp2_with fail
              go_quiet (fail)
              generalize hqq : World.drewN wr2 _ = wr3
              have hn := hqq ▸ hn.never ((Chg.refl Never wr2).drewN _)
              clear hqq
              try clear c0 c1
              try clear d0 d1
              try have c0 := hn.chg.cellNever C0.out
              try have c1 := hn.chg.cellNever C1.out
              try have d0 := hn.chg.cellNever D0.out
              try have d1 := hn.chg.cellNever D1.out
              go_wp2_with fail
              refine wp_region_held_drew (S := fun w' => Chg Never wL w' ∧ w'.cell? ⟨yb, yo, none⟩ = some (.string y.path) ∧ w'.cell? ⟨yb, yo + 1, none⟩ = some (.slice ya y.lines.length ycap)) (by kernel_rfl) ⟨hn.chg.drew, hn.chg.cellNever D0.out, hn.chg.cellNever D1.out⟩ (fun hH => ?_)
              refine' tk 0 ?_
              refine' tk 1 ?_
              refine' tk 2 ?_
              refine' tk 3 ?_
              refine' tk 4 ?_
              refine' tk 5 ?_
              refine' tk 6 ?_
              refine' tk 7 ?_
              refine' tk 8 ?_
              refine wpAnyH_ready (rs := [9]) (by kernel_rfl) (by simp) ?_
              refine AllReadyH.cons rfl (fun K hK => ?_) AllReadyH.nil
              go_simp
              (go_at_call 64; refine (all_any y.lines 43 _ _ (HLY.out.never (And.left (by assumption))) (by decide) (by decide) (by omega)).mono ?_; rintro e wq ⟨rq, rfl, hcq, hrq⟩; obtain ⟨qa, qc, rfl, _, _, _⟩ := rdv_slice hrq; have hS2 := two_keep (by assumption) hcq)
              try go_wp2_with fail
              refine hK.out _ _ ?_ (fun hH => ?_)
              · assumption
              clear hK K
              try simp only [Act.put, List.setIfInBounds_toArray, List.set_cons_zero, List.set_cons_succ]
              refine' tk 10 ?_
              refine wpAnyH_ready (rs := [11]) (by kernel_rfl) (by simp) ?_
              refine AllReadyH.cons rfl (fun K hK => ?_) AllReadyH.nil
              go_simp
              refine hK.out _ _ (two_keep hH ((Chg.refl Never _).alloc _)) (fun hH2 => ?_)
              clear hK K
              try simp only [Act.put, List.setIfInBounds_toArray, List.set_cons_zero, List.set_cons_succ]
              have hnq := (hn.never (Chg.refl Never _).drew).never hcq
              have hyq : Dat.rd _ (fun k => Old wL.heap.size k ∨ _ = some k) _ (⟨2, y.path, wholeR y.lines 43⟩ : Change) := ⟨_, rfl, hpy, hn.fresh hrq⟩
              refine wpAnyH_ready (rs := [12]) (by kernel_rfl) (by simp) ?_
              refine AllReadyH.cons rfl (fun K hK => ?_) AllReadyH.nil
              refine step_push (by rfl) _ _ 51 (by rfl) elemOk_change (O := Old wL.heap.size) (l := L) (y := ⟨2, y.path, wholeR y.lines 43⟩) (by rfl) (by rfl) (by simp) hnq.own hyq hnq.olds hLl ?_
              intro v' wp hown2 hc2 hk2
              have hn2 := hnq.step1 hown2 hc2
              obtain ⟨oa2, on2, oc2, rfl⟩ := own_isSlice hn2.own
              refine hK.out _ _ ⟨hn2.chg, hn2.chg.cellNever D0.out, hn2.chg.cellNever D1.out⟩ (fun _ => ?_)
              clear hK K hnq hyq hown2 hc2 hk2 hH hH2 hS2 hcq hrq hn
              try simp only [Act.put, List.setIfInBounds_toArray, List.set_cons_zero, List.set_cons_succ]
              refine' tk 13 ?_
              refine wpAnyH_done (by kernel_rfl) ?_ _
              go_wp2_with fail
              go_roundw
              case rel => exact ⟨_, B.drop 1, L ++ [⟨2, y.path, wholeR y.lines 43⟩], hA, hsb, hn2, FA, FB.out.drop, by rw [List.length_append, hdb]; simp; omega, by rw [Hid, List.append_assoc, ← HG.out]; exact HL.out⟩
              case measure => simp [sliceLen]; omega
          · obtain ⟨x, hx⟩ : ∃ x, A[0]? = some x := ⟨A[0], by simp [hA0]⟩
            obtain ⟨xb, xo, xv, rfl, _, _, c0, c1, hpx, hlx⟩ := elems_file a3 hx
            simp only [Nat.zero_mul, Nat.add_zero] at c0 c1
            have HLX := Lib.hid hlx
            have FX := Lib.hid (FA.out.get hx)
            have hxl := linesFault_len FX.out
            obtain ⟨xa, xcap, rfl, _, _, _⟩ := rdv_slice hlx
            have C0 := Lib.hid c0
            have C1 := Lib.hid c1
            have c0 := hn.chg.cellNever c0
            have c1 := hn.chg.cellNever c1
            have HX := Lib.hid hx
            obtain ⟨sa, _, hrunA, _, hsa⟩ := slice_gen (P := Tryz.prog) (t := 41) (by kernel_rfl) size_file hA 1 A.length (by omega) (Nat.le_refl _)
            have hrunA := fun (wx : World) => hrunA 1 wx rfl rfl
            rw [List.take_of_length_le (Nat.le_of_eq List.length_drop)] at hsa
            have hda : (A.drop 1).length = A.length - 1 := List.length_drop
            have p0 : ((A.length : Int) == 0) = false := beq_eq_false_iff_ne.2 (by omega)
            have p1 : decide ((A.length : Int) > 0) = true := by simp; omega
            clear hx hlx
            rcases Nat.eq_zero_or_pos B.length with hB0 | hB0
            · obtain rfl : B = [] := List.eq_nil_of_length_eq_zero hB0
              have HG := Lib.hid (diffG_take (n := n) (b := []) HX.out (.inl rfl))
              clear b3 a3
              go_wp2_with fail
              go_quiet (fail)
              generalize hqq : World.drewN wr _ = wr2
              have hn := hqq ▸ hn.never ((Chg.refl Never wr).drewN _)
              clear hqq
              try clear c0 c1
              try clear d0 d1
              try have c0 := hn.chg.cellNever C0.out
              try have c1 := hn.chg.cellNever C1.out
              try have d0 := hn.chg.cellNever D0.out
              try have d1 := hn.chg.cellNever D1.out
              go_wp2_with fail
              refine wp_region_held_drew (S := fun w' => Chg Never wL w' ∧ w'.cell? ⟨xb, xo, none⟩ = some (.string x.path) ∧ w'.cell? ⟨xb, xo + 1, none⟩ = some (.slice xa x.lines.length xcap)) (by kernel_rfl) ⟨hn.chg.drew, hn.chg.cellNever C0.out, hn.chg.cellNever C1.out⟩ (fun hH => ?_)
              refine' tk 0 ?_
              refine' tk 1 ?_
              refine' tk 2 ?_
              refine' tk 3 ?_
              refine' tk 4 ?_
              refine' tk 5 ?_
              refine' tk 6 ?_
              refine' tk 7 ?_
              refine' tk 8 ?_
              refine wpAnyH_ready (rs := [9]) (by kernel_rfl) (by simp) ?_
              refine AllReadyH.cons rfl (fun K hK => ?_) AllReadyH.nil
              go_simp
              (go_at_call 64; refine (all_any x.lines 45 _ _ (HLX.out.never (And.left (by assumption))) (by decide) (by decide) (by omega)).mono ?_; rintro e wq ⟨rq, rfl, hcq, hrq⟩; obtain ⟨qa, qc, rfl, _, _, _⟩ := rdv_slice hrq; have hS2 := two_keep (by assumption) hcq)
              try go_wp2_with fail
              refine hK.out _ _ ?_ (fun hH => ?_)
              · assumption
              clear hK K
              try simp only [Act.put, List.setIfInBounds_toArray, List.set_cons_zero, List.set_cons_succ]
              refine' tk 10 ?_
              refine wpAnyH_ready (rs := [11]) (by kernel_rfl) (by simp) ?_
              refine AllReadyH.cons rfl (fun K hK => ?_) AllReadyH.nil
              go_simp
              refine hK.out _ _ (two_keep hH ((Chg.refl Never _).alloc _)) (fun hH2 => ?_)
              clear hK K
              try simp only [Act.put, List.setIfInBounds_toArray, List.set_cons_zero, List.set_cons_succ]
              have hnq := (hn.never (Chg.refl Never _).drew).never hcq
              have hyq : Dat.rd _ (fun k => Old wL.heap.size k ∨ _ = some k) _ (⟨3, x.path, wholeR x.lines 45⟩ : Change) := ⟨_, rfl, hpx, hn.fresh hrq⟩
              refine wpAnyH_ready (rs := [12]) (by kernel_rfl) (by simp) ?_
              refine AllReadyH.cons rfl (fun K hK => ?_) AllReadyH.nil
              refine step_push (by rfl) _ _ 51 (by rfl) elemOk_change (O := Old wL.heap.size) (l := L) (y := ⟨3, x.path, wholeR x.lines 45⟩) (by rfl) (by rfl) (by simp) hnq.own hyq hnq.olds hLl ?_
              intro v' wp hown2 hc2 hk2
              have hn2 := hnq.step1 hown2 hc2
              obtain ⟨oa2, on2, oc2, rfl⟩ := own_isSlice hn2.own
              refine hK.out _ _ ⟨hn2.chg, hn2.chg.cellNever C0.out, hn2.chg.cellNever C1.out⟩ (fun _ => ?_)
              clear hK K hnq hyq hown2 hc2 hk2 hH hH2 hS2 hcq hrq hn
              try simp only [Act.put, List.setIfInBounds_toArray, List.set_cons_zero, List.set_cons_succ]
              refine' tk 13 ?_
              refine wpAnyH_done (by kernel_rfl) ?_ _
              go_wp2_with fail
              go_roundw
              case rel => exact ⟨A.drop 1, _, L ++ [⟨3, x.path, wholeR x.lines 45⟩], hsa, hB, hn2, FA.out.drop, FB, by rw [List.length_append, hda]; simp; omega, by rw [Hid, List.append_assoc, ← HG.out]; exact HL.out⟩
              case measure => simp [sliceLen]; omega
            · obtain ⟨y, hy⟩ : ∃ y, B[0]? = some y := ⟨B[0], by simp [hB0]⟩
              obtain ⟨yb, yo, yv, rfl, _, _, d0, d1, hpy, hly⟩ := elems_file b3 hy
              simp only [Nat.zero_mul, Nat.add_zero] at d0 d1
              have HLY := Lib.hid hly
              have FY := Lib.hid (FB.out.get hy)
              have hyl := linesFault_len FY.out
              obtain ⟨ya, ycap, rfl, _, _, _⟩ := rdv_slice hly
              have D0 := Lib.hid d0
              have D1 := Lib.hid d1
              have d0 := hn.chg.cellNever d0
              have d1 := hn.chg.cellNever d1
              have HY := Lib.hid hy
              obtain ⟨sb, _, hrunB, _, hsb⟩ := slice_gen (P := Tryz.prog) (t := 41) (by kernel_rfl) size_file hB 1 B.length (by omega) (Nat.le_refl _)
              have hrunB := fun (wx : World) => hrunB 1 wx rfl rfl
              rw [List.take_of_length_le (Nat.le_of_eq List.length_drop)] at hsb
              have hdb : (B.drop 1).length = B.length - 1 := List.length_drop
              have q0 : ((B.length : Int) == 0) = false := beq_eq_false_iff_ne.2 (by omega)
              have q1 : decide ((B.length : Int) > 0) = true := by simp; omega
              clear hy hly
              by_cases l1 : less x.path y.path = true
              · have t1 : Op.bytesLess x.path.toList y.path.toList = true := l1
                have HG := Lib.hid (diffG_take (n := n) HX.out (.inr ⟨y, HY.out, l1⟩))
                clear a3 b3 l1
                go_wp2_with fail
                go_quiet (fail)
                generalize hqq : World.drewN wr _ = wr2
                have hn := hqq ▸ hn.never ((Chg.refl Never wr).drewN _)
                clear hqq
                try clear c0 c1
                try clear d0 d1
                try have c0 := hn.chg.cellNever C0.out
                try have c1 := hn.chg.cellNever C1.out
                try have d0 := hn.chg.cellNever D0.out
                try have d1 := hn.chg.cellNever D1.out
                go_wp2_with fail
                refine wp_region_held_drew (S := fun w' => Chg Never wL w' ∧ w'.cell? ⟨xb, xo, none⟩ = some (.string x.path) ∧ w'.cell? ⟨xb, xo + 1, none⟩ = some (.slice xa x.lines.length xcap)) (by kernel_rfl) ⟨hn.chg.drew, hn.chg.cellNever C0.out, hn.chg.cellNever C1.out⟩ (fun hH => ?_)
                refine' tk 0 ?_
                refine' tk 1 ?_
                refine' tk 2 ?_
                refine' tk 3 ?_
                refine' tk 4 ?_
                refine' tk 5 ?_
                refine' tk 6 ?_
                refine' tk 7 ?_
                refine' tk 8 ?_
                refine wpAnyH_ready (rs := [9]) (by kernel_rfl) (by simp) ?_
                refine AllReadyH.cons rfl (fun K hK => ?_) AllReadyH.nil
                go_simp
                (go_at_call 64; refine (all_any x.lines 45 _ _ (HLX.out.never (And.left (by assumption))) (by decide) (by decide) (by omega)).mono ?_; rintro e wq ⟨rq, rfl, hcq, hrq⟩; obtain ⟨qa, qc, rfl, _, _, _⟩ := rdv_slice hrq; have hS2 := two_keep (by assumption) hcq)
                try go_wp2_with fail
                refine hK.out _ _ ?_ (fun hH => ?_)
                · assumption
                clear hK K
                try simp only [Act.put, List.setIfInBounds_toArray, List.set_cons_zero, List.set_cons_succ]
                refine' tk 10 ?_
                refine wpAnyH_ready (rs := [11]) (by kernel_rfl) (by simp) ?_
                refine AllReadyH.cons rfl (fun K hK => ?_) AllReadyH.nil
                go_simp
                refine hK.out _ _ (two_keep hH ((Chg.refl Never _).alloc _)) (fun hH2 => ?_)
                clear hK K
                try simp only [Act.put, List.setIfInBounds_toArray, List.set_cons_zero, List.set_cons_succ]
                have hnq := (hn.never (Chg.refl Never _).drew).never hcq
                have hyq : Dat.rd _ (fun k => Old wL.heap.size k ∨ _ = some k) _ (⟨3, x.path, wholeR x.lines 45⟩ : Change) := ⟨_, rfl, hpx, hn.fresh hrq⟩
                refine wpAnyH_ready (rs := [12]) (by kernel_rfl) (by simp) ?_
                refine AllReadyH.cons rfl (fun K hK => ?_) AllReadyH.nil
                refine step_push (by rfl) _ _ 51 (by rfl) elemOk_change (O := Old wL.heap.size) (l := L) (y := ⟨3, x.path, wholeR x.lines 45⟩) (by rfl) (by rfl) (by simp) hnq.own hyq hnq.olds hLl ?_
                intro v' wp hown2 hc2 hk2
                have hn2 := hnq.step1 hown2 hc2
                obtain ⟨oa2, on2, oc2, rfl⟩ := own_isSlice hn2.own
                refine hK.out _ _ ⟨hn2.chg, hn2.chg.cellNever C0.out, hn2.chg.cellNever C1.out⟩ (fun _ => ?_)
                clear hK K hnq hyq hown2 hc2 hk2 hH hH2 hS2 hcq hrq hn
                try simp only [Act.put, List.setIfInBounds_toArray, List.set_cons_zero, List.set_cons_succ]
                refine' tk 13 ?_
                refine wpAnyH_done (by kernel_rfl) ?_ _
                go_wp2_with fail
                go_roundw
                case rel => exact ⟨A.drop 1, _, L ++ [⟨3, x.path, wholeR x.lines 45⟩], hsa, hB, hn2, FA.out.drop, FB, by rw [List.length_append, hda]; simp; omega, by rw [Hid, List.append_assoc, ← HG.out]; exact HL.out⟩
                case measure => simp [sliceLen]; omega
              · have t1 : Op.bytesLess x.path.toList y.path.toList = false := by simpa [less] using l1
                by_cases l2 : less y.path x.path = true
                · have t2 : Op.bytesLess y.path.toList x.path.toList = true := l2
                  have HG := Lib.hid (diffG_put (n := n) HY.out (.inr ⟨x, HX.out, l1, l2⟩))
                  clear a3 b3 l1 l2
                  go_wp2_with fail
                  go_quiet (fail)
                  generalize hqq : World.drewN wr _ = wr2
                  have hn := hqq ▸ hn.never ((Chg.refl Never wr).drewN _)
                  clear hqq
                  try clear c0 c1
                  try clear d0 d1
                  try have c0 := hn.chg.cellNever C0.out
                  try have c1 := hn.chg.cellNever C1.out
                  try have d0 := hn.chg.cellNever D0.out
                  try have d1 := hn.chg.cellNever D1.out
                  go_wp2_with fail
                  go_quiet (fail)
                  generalize hqq : World.drewN wr2 _ = wr3
                  have hn := hqq ▸ hn.never ((Chg.refl Never wr2).drewN _)
                  clear hqq
                  try clear c0 c1
                  try clear d0 d1
                  try have c0 := hn.chg.cellNever C0.out
                  try have c1 := hn.chg.cellNever C1.out
                  try have d0 := hn.chg.cellNever D0.out
                  try have d1 := hn.chg.cellNever D1.out
                  go_wp2_with fail
                  refine wp_region_held_drew (S := fun w' => Chg Never wL w' ∧ w'.cell? ⟨yb, yo, none⟩ = some (.string y.path) ∧ w'.cell? ⟨yb, yo + 1, none⟩ = some (.slice ya y.lines.length ycap)) (by kernel_rfl) ⟨hn.chg.drew, hn.chg.cellNever D0.out, hn.chg.cellNever D1.out⟩ (fun hH => ?_)
                  refine' tk 0 ?_
                  refine' tk 1 ?_
                  refine' tk 2 ?_
                  refine' tk 3 ?_
                  refine' tk 4 ?_
                  refine' tk 5 ?_
                  refine' tk 6 ?_
                  refine' tk 7 ?_
                  refine' tk 8 ?_
                  refine wpAnyH_ready (rs := [9]) (by kernel_rfl) (by simp) ?_
                  refine AllReadyH.cons rfl (fun K hK => ?_) AllReadyH.nil
                  go_simp
                  (go_at_call 64; refine (all_any y.lines 43 _ _ (HLY.out.never (And.left (by assumption))) (by decide) (by decide) (by omega)).mono ?_; rintro e wq ⟨rq, rfl, hcq, hrq⟩; obtain ⟨qa, qc, rfl, _, _, _⟩ := rdv_slice hrq; have hS2 := two_keep (by assumption) hcq)
                  try go_wp2_with fail
                  refine hK.out _ _ ?_ (fun hH => ?_)
                  · assumption
                  clear hK K
                  try simp only [Act.put, List.setIfInBounds_toArray, List.set_cons_zero, List.set_cons_succ]
                  refine' tk 10 ?_
                  refine wpAnyH_ready (rs := [11]) (by kernel_rfl) (by simp) ?_
                  refine AllReadyH.cons rfl (fun K hK => ?_) AllReadyH.nil
                  go_simp
                  refine hK.out _ _ (two_keep hH ((Chg.refl Never _).alloc _)) (fun hH2 => ?_)
                  clear hK K
                  try simp only [Act.put, List.setIfInBounds_toArray, List.set_cons_zero, List.set_cons_succ]
                  have hnq := (hn.never (Chg.refl Never _).drew).never hcq
                  have hyq : Dat.rd _ (fun k => Old wL.heap.size k ∨ _ = some k) _ (⟨2, y.path, wholeR y.lines 43⟩ : Change) := ⟨_, rfl, hpy, hn.fresh hrq⟩
                  refine wpAnyH_ready (rs := [12]) (by kernel_rfl) (by simp) ?_
                  refine AllReadyH.cons rfl (fun K hK => ?_) AllReadyH.nil
                  refine step_push (by rfl) _ _ 51 (by rfl) elemOk_change (O := Old wL.heap.size) (l := L) (y := ⟨2, y.path, wholeR y.lines 43⟩) (by rfl) (by rfl) (by simp) hnq.own hyq hnq.olds hLl ?_
                  intro v' wp hown2 hc2 hk2
                  have hn2 := hnq.step1 hown2 hc2
                  obtain ⟨oa2, on2, oc2, rfl⟩ := own_isSlice hn2.own
                  refine hK.out _ _ ⟨hn2.chg, hn2.chg.cellNever D0.out, hn2.chg.cellNever D1.out⟩ (fun _ => ?_)
                  clear hK K hnq hyq hown2 hc2 hk2 hH hH2 hS2 hcq hrq hn
                  try simp only [Act.put, List.setIfInBounds_toArray, List.set_cons_zero, List.set_cons_succ]
                  refine' tk 13 ?_
                  refine wpAnyH_done (by kernel_rfl) ?_ _
                  go_wp2_with fail
                  go_roundw
                  case rel => exact ⟨_, B.drop 1, L ++ [⟨2, y.path, wholeR y.lines 43⟩], hA, hsb, hn2, FA, FB.out.drop, by rw [List.length_append, hdb]; simp; omega, by rw [Hid, List.append_assoc, ← HG.out]; exact HL.out⟩
                  case measure => simp [sliceLen]; omega
                · have t2 : Op.bytesLess y.path.toList x.path.toList = false := by simpa [less] using l2
                  have HG := Lib.hid (diffG_both (n := n) HX.out HY.out l1 l2)
                  have HMK := Lib.hid (make_valid FX.out FY.out n0 n1)
                  clear a3 b3 l1 l2
                  go_wp2_with fail
                  go_quiet (fail)
                  generalize hqq : World.drewN wr _ = wr2
                  have hn := hqq ▸ hn.never ((Chg.refl Never wr).drewN _)
                  clear hqq
                  try clear c0 c1
                  try clear d0 d1
                  try have c0 := hn.chg.cellNever C0.out
                  try have c1 := hn.chg.cellNever C1.out
                  try have d0 := hn.chg.cellNever D0.out
                  try have d1 := hn.chg.cellNever D1.out
                  go_wp2_with fail
                  go_quiet (fail)
                  generalize hqq : World.drewN wr2 _ = wr3
                  have hn := hqq ▸ hn.never ((Chg.refl Never wr2).drewN _)
                  clear hqq
                  try clear c0 c1
                  try clear d0 d1
                  try have c0 := hn.chg.cellNever C0.out
                  try have c1 := hn.chg.cellNever C1.out
                  try have d0 := hn.chg.cellNever D0.out
                  try have d1 := hn.chg.cellNever D1.out
                  go_wp2_with fail
                  refine wp_region_held_drew (S := fun w' => Chg Never wL w' ∧ w'.cell? ⟨xb, xo + 1, none⟩ = some (.slice xa x.lines.length xcap) ∧ w'.cell? ⟨yb, yo + 1, none⟩ = some (.slice ya y.lines.length ycap)) (by kernel_rfl) ⟨hn.chg.drew, c1, d1⟩ (fun hH => ?_)
                  refine' tk 0 ?_
                  refine' tk 1 ?_
                  refine' tk 2 ?_
                  refine' tk 3 ?_
                  refine' tk 4 ?_
                  refine' tk 5 ?_
                  refine' tk 6 ?_
                  refine' tk 7 ?_
                  refine' tk 8 ?_
                  refine wpAnyH_ready (rs := [9]) (by kernel_rfl) (by simp) ?_
                  refine AllReadyH.cons rfl (fun K hK => ?_) AllReadyH.nil
                  go_simp
                  (go_at_call 65; refine (make_any x.lines y.lines n _ _ _ (HLX.out.never (And.left (by assumption))) (HLY.out.never (And.left (by assumption))) (by unfold I64; omega)).mono ?_; rintro e wq ⟨rq, rfl, hcq, hrq⟩; have hS2 := two_keep (by assumption) hcq)
                  try go_wp2_with fail
                  refine hK.out _ _ ?_ (fun hH => ?_)
                  · assumption
                  clear hK K
                  try simp only [Act.put, List.setIfInBounds_toArray, List.set_cons_zero, List.set_cons_succ]
                  rw [HMK.out.1, errV_zero]
                  rw [HMK.out.2] at hrq
                  obtain ⟨qa, qc, rfl, _, _, _⟩ := rdv_slice hrq
                  refine' tk 10 ?_
                  refine' tk 11 ?_
                  refine' tk 12 ?_
                  refine' tk 13 ?_
                  refine' tk 14 ?_
                  refine wpAnyH_done (by kernel_rfl) ?_ _
                  have hrr := hn.fresh hrq
                  have hn := (hn.never (Chg.refl Never _).drew).never hcq
                  clear hrq hcq c0 c1 d0 d1 hH hS2
                  have c0 := hn.chg.cellNever C0.out
                  by_cases hcut : cutOf (script x.lines y.lines) n = []
                  · have HCH := Lib.hid (chg_none (p := x.path) hcut)
                    rw [hcut] at hrr ⊢
                    clear hcut
                    go_wp2_with fail
                    go_quiet (fail)
                    go_wp2_with fail
                    go_roundw
                    case rel => exact ⟨A.drop 1, B.drop 1, L, hsa, hsb, hn.never ((Chg.refl Never _).drewN _), FA.out.drop, FB.out.drop, by omega, by rw [Hid, ← HL.out, HG.out, HCH.out]; rfl⟩
                    case measure => simp [sliceLen]; omega
                  · have HCH := Lib.hid (chg_some (p := x.path) hcut)
                    have hpos : 0 < (cutOf (script x.lines y.lines) n).length := List.length_pos_iff.2 hcut
                    clear hcut
                    have hyc : Dat.rd _ (fun k => Old wL.heap.size k ∨ _ = some k) _ (⟨1, x.path, cutOf (script x.lines y.lines) n⟩ : Change) := ⟨_, rfl, hpx, hrr⟩
                    go_wp2_with (at_builtin; refine wpList_push (by rfl) _ _ 51 (by rfl) elemOk_change (O := Old wL.heap.size) (l := L) (y := ⟨1, x.path, cutOf (script x.lines y.lines) n⟩) (by rfl) (by rfl) (by rfl) hn.own hyc hn.olds hLl ?_; intro v' w9 hown2 hc2 hk2; have hn2 := hn.step1 hown2 hc2; clear hown2 hc2 hk2 hn hyc; obtain ⟨oa2, on2, oc2, rfl⟩ := own_isSlice hn2.own)
                    go_quiet (fail)
                    go_wp2_with fail
                    go_roundw
                    case rel => exact ⟨A.drop 1, B.drop 1, L ++ [⟨1, x.path, cutOf (script x.lines y.lines) n⟩], hsa, hsb, hn2.never ((Chg.refl Never _).drewN _), FA.out.drop, FB.out.drop, by rw [List.length_append]; simp; omega, by rw [Hid, List.append_assoc, ← HL.out, HG.out, HCH.out]⟩
                    case measure => simp [sliceLen]; omega
def DiffPost (a b : List File) (n : Int) (w : World) (e : Ending) (w' : World) : Prop := ∃ r, e = .returned (.tuple #[r, errV (diffFault a b n)]) ∧ Chg Never w w' ∧ Rdv w' Never r (diffR a b n)
theorem diff_any (a b : List File) (n : Int) (va vb : Value) (w : World) (ha : Rdv w Never va a) (hb : Rdv w Never vb b) (hn : I64 n) (m : Int) (hm : w.cell? ⟨1, 0, none⟩ = some (.int .i64 m)) :
    Calls Tryz.prog 25 #[va, vb, .int .i64 n] w fun e w' => DiffPost a b n w e w' := by
  refine (diff_old a b n va vb w ha hb hn m hm).mono ?_
  rintro e w' ⟨r, he, hc, hr⟩
  exact ⟨r, he, hc, hr.sub (fun k _ hk => hk.elim)⟩
end Go.Proofs.YtjiaidchcldocaaGreatDoor
