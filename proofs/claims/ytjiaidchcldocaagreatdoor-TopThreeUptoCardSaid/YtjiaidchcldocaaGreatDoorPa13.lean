/-
  PARTS: THE WALK of patch.Diff.; WHAT WAS DONE LEADS FROM A TREE TO A TREE, in plain Lean.; PATCHES FROM TREE TO TREE, in plain Lean (the statements of the whole): what is found between neighbours, what a series run leads to.; THE WALK of patch.done: what a change does to what a path reads.; THE WALKS of tree.Find (a binary search).
-/
import Derived.Test.YtjiaidchcldocaaGreatDoorPa12
import Derived.Test.YtjiaidchcldocaaGreatDoorPa8
import Derived.Test.YtjiaidchcldocaaGreatDoorPa11
import Derived.Test.YtjiaidchcldocaaGreatDoorPa7
import Derived.Deep.RegionHeld3
import Derived.BigQuiet
import Derived.Test.YtjiaidchcldocaaGreatDoorPa4
set_option linter.unusedVariables false
set_option linter.unusedSimpArgs false
namespace Go.Proofs.YtjiaidchcldocaaGreatDoor
open Go.RowKit

def diffFault (a b : List File) (n : Int) : Int := if (treeFault a).2 ≠ 0 then (treeFault a).2 else if (treeFault b).2 ≠ 0 then (treeFault b).2 else if n < 0 ∨ 1000 < n then 1 else 0
def diffR (a b : List File) (n : Int) : List Change := if diffFault a b n = 0 then diffL n a b else []
theorem diffFault_a {a b : List File} {n : Int} (h : (treeFault a).2 ≠ 0) : diffFault a b n = (treeFault a).2 := if_pos h
theorem diffFault_b {a b : List File} {n : Int} (h : (treeFault a).2 = 0) (g : (treeFault b).2 ≠ 0) : diffFault a b n = (treeFault b).2 := by unfold diffFault; rw [if_neg (by rw [h]; decide), if_pos g]
theorem diffFault_n {a b : List File} {n : Int} (h : (treeFault a).2 = 0) (g : (treeFault b).2 = 0) (hn : n < 0 ∨ 1000 < n) : diffFault a b n = 1 := by unfold diffFault; rw [if_neg (by rw [h]; decide), if_neg (by rw [g]; decide), if_pos hn]
theorem diffFault_0 {a b : List File} {n : Int} (h : (treeFault a).2 = 0) (g : (treeFault b).2 = 0) (n0 : 0 ≤ n) (n1 : n ≤ 1000) : diffFault a b n = 0 := by unfold diffFault; rw [if_neg (by rw [h]; decide), if_neg (by rw [g]; decide), if_neg (by omega)]
theorem diffR_bad {a b : List File} {n : Int} (h : diffFault a b n ≠ 0) : diffR a b n = [] := if_neg h
theorem diffR_ok {a b : List File} {n : Int} (h : diffFault a b n = 0) : diffR a b n = diffL n a b := if_pos h
def sliceLen : Value → Nat
  | .slice _ n _ => n
  | _ => 0
theorem cons_of_get {α : Type} {l : List α} {x : α} (h : l[0]? = some x) : l = x :: l.drop 1 := by
  cases l with
  | nil => cases h
  | cons y r => simp at h; subst h; rfl
theorem diffG_take {n : Int} {x : File} {a b : List File} (hx : a[0]? = some x) (h : b = [] ∨ ∃ y, b[0]? = some y ∧ less x.path y.path = true) : diffL n a b = [⟨3, x.path, wholeR x.lines 45⟩] ++ diffL n (a.drop 1) b := by
  have e := cons_of_get hx
  generalize a.drop 1 = r at e ⊢
  subst e
  exact diffL_take (h.imp_right fun ⟨y, h1, h2⟩ => ⟨y, _, cons_of_get h1, h2⟩)
theorem diffG_put {n : Int} {y : File} {a b : List File} (hy : b[0]? = some y) (h : a = [] ∨ ∃ x, a[0]? = some x ∧ ¬ less x.path y.path = true ∧ less y.path x.path = true) : diffL n a b = [⟨2, y.path, wholeR y.lines 43⟩] ++ diffL n a (b.drop 1) := by
  have e := cons_of_get hy
  generalize b.drop 1 = r at e ⊢
  subst e
  exact diffL_put (h.imp_right fun ⟨x, h1, h2⟩ => ⟨x, _, cons_of_get h1, h2⟩)
theorem diffG_both {n : Int} {x y : File} {a b : List File} (hx : a[0]? = some x) (hy : b[0]? = some y) (h : ¬ less x.path y.path = true) (g : ¬ less y.path x.path = true) : diffL n a b = chg n x.path (some x.lines) (some y.lines) ++ diffL n (a.drop 1) (b.drop 1) := by
  have e := cons_of_get hx
  have e2 := cons_of_get hy
  generalize a.drop 1 = r at e ⊢
  generalize b.drop 1 = s at e2 ⊢
  subst e
  subst e2
  exact diffL_both h g
/-- the files of a tree are valid -/
def AllFine (a : List File) : Prop := ∀ f ∈ a, fileFault f = 0
theorem AllFine.get {a : List File} (h : AllFine a) {x : File} (hx : a[0]? = some x) : linesFault x.lines = 0 := fileFault_lines (h x (List.mem_of_getElem? hx))
theorem AllFine.drop {a : List File} (h : AllFine a) : AllFine (a.drop 1) := fun f hf => h f (List.mem_of_mem_drop hf)

def DiffPostO (a b : List File) (n : Int) (w : World) (e : Ending) (w' : World) : Prop := ∃ r, e = .returned (.tuple #[r, errV (diffFault a b n)]) ∧ Chg Never w w' ∧ Rdv w' (Old w.heap.size) r (diffR a b n)
theorem diffPost_bad {a b : List File} {n k : Int} {w w' : World} (h : diffFault a b n = k) (hk : k ≠ 0) (hc : Chg Never w w') : DiffPostO a b n w (.returned (.tuple #[.slice none 0 0, errV k])) w' :=
  ⟨_, by rw [h], hc, by rw [diffR_bad (by rw [h]; exact hk)]; exact rdv_nil _ _⟩
theorem diffPost_ok {a b : List File} {n : Int} {w w' : World} {r : Value} (h : diffFault a b n = 0) (hc : Chg Never w w') (hr : Rdv w' (Old w.heap.size) r (diffL n a b)) : DiffPostO a b n w (.returned (.tuple #[r, .nilIface])) w' :=
  ⟨r, by rw [h, errV_zero], hc, by rw [diffR_ok h]; exact hr⟩
set_option maxHeartbeats 4000000 in
set_option maxRecDepth 100000 in
theorem diff_old (a b : List File) (n : Int) (va vb : Value) (w : World) (ha : Rdv w Never va a) (hb : Rdv w Never vb b) (hn : I64 n) (m : Int) (hm : w.cell? ⟨1, 0, none⟩ = some (.int .i64 m)) :
    Calls Tryz.prog 25 #[va, vb, .int .i64 n] w fun e w' => DiffPostO a b n w e w' := by
  obtain ⟨a0, acap0, rfl, _, _, _⟩ := rdv_slice ha
  obtain ⟨b0, bcap0, rfl, _, _, _⟩ := rdv_slice hb
  have x0 : ∀ wx, (Instr.index 130 (.agg #[.slice a0 a.length acap0, .slice b0 b.length bcap0]) (.int .i64 0)).run Tryz.prog wx = .ok (.slice a0 a.length acap0) wx := fun _ => by kernel_rfl
  have x1 : ∀ wx, (Instr.index 130 (.agg #[.slice a0 a.length acap0, .slice b0 b.length bcap0]) (.int .i64 1)).run Tryz.prog wx = .ok (.slice b0 b.length bcap0) wx := fun _ => by kernel_rfl
  unfold I64 at hn
  go_enter Tryz.func25, Tryz.ntmps25
  go_wp2_with fail
  go_loopw [18] (fun i wL => ∃ k : Nat, k ≤ 2 ∧ i = .int .i64 k ∧ Chg Never w wL ∧ Hid ((1 ≤ k → (treeFault a).2 = 0) ∧ (2 ≤ k → (treeFault b).2 = 0))) (fun i _ => 2 - (intOf i).toNat)
  case atStart => exact ⟨0, by decide, rfl, Chg.refl _ _, by omega, by omega⟩
  case round =>
    rename World => wL
    obtain ⟨k, hk, rfl, hc, hF⟩ := hrel
    rcases Nat.lt_or_ge k 2 with hlt | hge
    · rcases Nat.eq_zero_or_pos k with rfl | hpos
      · go_wp2_with fail
        refine (tree_check_any a _ _ (ha.never hc) m (hc.cellNever hm)).mono ?_
        rintro e w2 ⟨rfl, hc2⟩
        have hc := hc.trans hc2
        clear hc2
        by_cases z : (treeFault a).2 = 0
        · have Z := Lib.hid z
          rw [z, errV_zero]
          clear z
          go_wp2_with fail
          go_roundw
          case rel => exact ⟨1, by decide, rfl, hc, fun _ => Z.out, by omega⟩
          case measure => simp [intOf]
        · rw [errV_pos z]
          have E := diffPost_bad (n := n) (w := w) (diffFault_a (b := b) (n := n) z) z hc
          rw [errV_pos z] at E
          clear z
          go_wp2_with fail
          go_ret2
          exact E
      · obtain rfl : k = 1 := by omega
        go_wp2_with fail
        refine (tree_check_any b _ _ (hb.never hc) m (hc.cellNever hm)).mono ?_
        rintro e w2 ⟨rfl, hc2⟩
        have hc := hc.trans hc2
        clear hc2
        by_cases z : (treeFault b).2 = 0
        · have Z := Lib.hid z
          rw [z, errV_zero]
          clear z
          go_wp2_with fail
          go_roundw
          case rel => exact ⟨2, by decide, rfl, hc, fun _ => hF.out.1 (by decide), fun _ => Z.out⟩
          case measure => simp [intOf]
        · rw [errV_pos z]
          have E := diffPost_bad (n := n) (w := w) (diffFault_b (n := n) (hF.out.1 (by decide)) z) z hc
          rw [errV_pos z] at E
          clear z
          go_wp2_with fail
          go_ret2
          exact E
    · obtain rfl : k = 2 := by omega
      have ta := hF.out.1 (by decide)
      have tb := hF.out.2 (by decide)
      clear hF x0 x1
      by_cases hr : n < 0 ∨ 1000 < n
      · have E := diffPost_bad (w := w) (diffFault_n ta tb hr) (by decide) hc
        clear ta tb
        rcases hr with hr | hr
        · go_wp2_with fail
          go_ret2
          exact E
        · have h0 : ¬ n < 0 := by omega
          go_wp2_with fail
          go_ret2
          exact E
      · have n0 : 0 ≤ n := by omega
        have n1 : n ≤ 1000 := by omega
        have EE : Hid (∀ (w' : World) (r : Value), Chg Never w w' → Rdv w' (Old w.heap.size) r (diffL n a b) → DiffPostO a b n w (.returned (.tuple #[r, .nilIface])) w') := fun w' r h1 h2 => diffPost_ok (diffFault_0 ta tb n0 n1) h1 h2
        have FA := Lib.hid (show AllFine a from (treeFault_zero ta).2.1)
        have FB := Lib.hid (show AllFine b from (treeFault_zero tb).2.1)
        have la := (treeFault_zero ta).1
        have lb := (treeFault_zero tb).1
        have HA := Lib.hid (ha.never hc)
        have HB := Lib.hid (hb.never hc)
        clear ta tb hr ha hb
        have hn0 := ownO_nil (α := Change) 85 (Chg.refl Never wL)
        go_wp2_with fail
        go_loopw [0, 1, 12] (fun v u o wr => ∃ (A B : List File) (L : List Change), Rdv wL Never v A ∧ Rdv wL Never u B ∧ OwnO 85 wL wr o L ∧ Hid (AllFine A) ∧ Hid (AllFine B) ∧ A.length + B.length + L.length ≤ 16 ∧ Hid (L ++ diffL n A B = diffL n a b)) (fun v u _ _ => sliceLen v + sliceLen u)
        case atStart => exact ⟨a, b, [], HA.out, HB.out, hn0, FA, FB, by simp; omega, by unfold Hid; rw [List.nil_append]⟩
        case round =>
          clear hn0 la lb FA FB HA HB
          rename World => wr
          obtain ⟨A, B, L, hA, hB, hn, FA, FB, hlen, HL⟩ := hrel
          obtain ⟨oa, on, oc, rfl⟩ := own_isSlice hn.own
          obtain ⟨aa, acap, rfl, a1, a2, a3⟩ := rdv_slice hA
          obtain ⟨ba, bcap, rfl, b1, b2, b3⟩ := rdv_slice hB
          unfold maxLen at a2 b2
          have hLl : L.length ≤ 1000000000 := by omega
          rcases Nat.eq_zero_or_pos A.length with hA0 | hA0
          · obtain rfl : A = [] := List.eq_nil_of_length_eq_zero hA0
            clear a3
            rcases Nat.eq_zero_or_pos B.length with hB0 | hB0
            · obtain rfl : B = [] := List.eq_nil_of_length_eq_zero hB0
              have HLo := HL.out
              rw [diffL_nil, List.append_nil] at HLo
              have HLO := Lib.hid HLo
              clear HLo
              go_wp2_with fail
              go_ret2
              exact EE.out _ _ (hc.trans hn.chg) (by rw [← HLO.out]; exact hn.own.rdv.sub (fun _ _ h => Nat.lt_of_lt_of_le h hc.size))
            · obtain ⟨y, hy⟩ : ∃ y, B[0]? = some y := ⟨B[0], by simp [hB0]⟩
              obtain ⟨yb, yo, yv, rfl, _, _, d0, d1, hpy, hly⟩ := elems_file b3 hy
              simp only [Nat.zero_mul, Nat.add_zero] at d0 d1
              have HLY := Lib.hid hly
              have FY := Lib.hid (FB.out.get hy)
              have hyl := linesFault_len FY.out
              obtain ⟨ya, ycap, rfl, _, _, _⟩ := rdv_slice hly
              have D0 := Lib.hid d0
              have D1 := Lib.hid d1
              have d0 := hn.chg.cellNever d0
              have d1 := hn.chg.cellNever d1
              have HY := Lib.hid hy
              obtain ⟨sb, _, hrunB, _, hsb⟩ := slice_gen (P := Tryz.prog) (t := 41) (by kernel_rfl) size_file hB 1 B.length (by omega) (Nat.le_refl _)
              have hrunB := fun (wx : World) => hrunB 1 wx rfl rfl
              rw [List.take_of_length_le (Nat.le_of_eq List.length_drop)] at hsb
              have hdb : (B.drop 1).length = B.length - 1 := List.length_drop
              have q0 : ((B.length : Int) == 0) = false := beq_eq_false_iff_ne.2 (by omega)
              have q1 : decide ((B.length : Int) > 0) = true := by simp; omega
              clear hy hly
              have HG := Lib.hid (diffG_put (n := n) (a := []) HY.out (.inl rfl))
              clear b3
              go_wp2_with fail
              go_quiet (fail)
              generalize hqq : World.drewN wr _ = wr2
              have hn := hqq ▸ hn.never ((Chg.refl Never wr).drewN _)
              clear hqq
              try clear c0 c1
              try clear d0 d1
              try have c0 := hn.chg.cellNever C0.out
              try have c1 := hn.chg.cellNever C1.out
              try have d0 := hn.chg.cellNever D0.out
              try have d1 := hn.chg.cellNever D1.out
              go_wp2_with fail
              go_quiet (fail)
              generalize hqq : World.drewN wr2 _ = wr3
              have hn := hqq ▸ hn.never ((Chg.refl Never wr2).drewN _)
              clear hqq
              try clear c0 c1
              try clear d0 d1
              try have c0 := hn.chg.cellNever C0.out
              try have c1 := hn.chg.cellNever C1.out
              try have d0 := hn.chg.cellNever D0.out
              try have d1 := hn.chg.cellNever D1.out
              go_wp2_with fail
              refine wp_region_held_drew (S := fun w' => Chg Never wL w' ∧ w'.cell? ⟨yb, yo, none⟩ = some (.string y.path) ∧ w'.cell? ⟨yb, yo + 1, none⟩ = some (.slice ya y.lines.length ycap)) (by kernel_rfl) ⟨hn.chg.drew, hn.chg.cellNever D0.out, hn.chg.cellNever D1.out⟩ (fun hH => ?_)
              refine' wpAnyH_take (i := 0) ?hi0 (by kernel_rfl) (by kernel_rfl) (by kernel_rfl) ?hQ0 (Or.inl ⟨?hw0, ?hy0⟩) (by assumption) ?_
              case hi0 => (simp only [List.getElem?_toArray, List.getElem?_cons_zero]; rfl)
              case hQ0 => exact fun _ _ _ h => h
              case hw0 => rfl
              case hy0 => (intro w' hSw; (try dsimp only at hSw); go_simp; all_goals with_reducible rfl)
              try simp only [Act.put, List.setIfInBounds_toArray, List.set_cons_zero, List.set_cons_succ]
              refine' wpAnyH_take (i := 1) ?hi1 (by kernel_rfl) (by kernel_rfl) (by kernel_rfl) ?hQ1 (Or.inl ⟨?hw1, ?hy1⟩) (by assumption) ?_
              case hi1 => (simp only [List.getElem?_toArray, List.getElem?_cons_succ, List.getElem?_cons_zero]; rfl)
              case hQ1 => exact fun _ _ _ h => h
              case hw1 => rfl
              case hy1 => (intro w' hSw; (try dsimp only at hSw); go_simp; all_goals with_reducible rfl)
              try simp only [Act.put, List.setIfInBounds_toArray, List.set_cons_zero, List.set_cons_succ]
              refine' wpAnyH_take (i := 2) ?hi2 (by kernel_rfl) (by kernel_rfl) (by kernel_rfl) ?hQ2 (Or.inl ⟨?hw2, ?hy2⟩) (by assumption) ?_
              case hi2 => (simp only [List.getElem?_toArray, List.getElem?_cons_succ, List.getElem?_cons_zero]; rfl)
              case hQ2 => exact fun _ _ _ h => h
              case hw2 => rfl
              case hy2 => (intro w' hSw; (try dsimp only at hSw); go_simp; all_goals with_reducible rfl)
              try simp only [Act.put, List.setIfInBounds_toArray, List.set_cons_zero, List.set_cons_succ]
              refine' wpAnyH_take (i := 3) ?hi3 (by kernel_rfl) (by kernel_rfl) (by kernel_rfl) ?hQ3 (Or.inl ⟨?hw3, ?hy3⟩) (by assumption) ?_
              case hi3 => (simp only [List.getElem?_toArray, List.getElem?_cons_succ, List.getElem?_cons_zero]; rfl)
              case hQ3 => exact fun _ _ _ h => h
              case hw3 => rfl
              case hy3 => (intro w' hSw; (try dsimp only at hSw); go_simp; all_goals with_reducible rfl)
              try simp only [Act.put, List.setIfInBounds_toArray, List.set_cons_zero, List.set_cons_succ]
              refine' wpAnyH_take (i := 4) ?hi4 (by kernel_rfl) (by kernel_rfl) (by kernel_rfl) ?hQ4 (Or.inl ⟨?hw4, ?hy4⟩) (by assumption) ?_
              case hi4 => (simp only [List.getElem?_toArray, List.getElem?_cons_succ, List.getElem?_cons_zero]; rfl)
              case hQ4 => exact fun _ _ _ h => h
              case hw4 => rfl
              case hy4 => (intro w' hSw; (try dsimp only at hSw); go_simp; all_goals with_reducible rfl)
              try simp only [Act.put, List.setIfInBounds_toArray, List.set_cons_zero, List.set_cons_succ]
              refine' wpAnyH_take (i := 5) ?hi5 (by kernel_rfl) (by kernel_rfl) (by kernel_rfl) ?hQ5 (Or.inl ⟨?hw5, ?hy5⟩) (by assumption) ?_
              case hi5 => (simp only [List.getElem?_toArray, List.getElem?_cons_succ, List.getElem?_cons_zero]; rfl)
              case hQ5 => exact fun _ _ _ h => h
              case hw5 => rfl
              case hy5 => (intro w' hSw; (try dsimp only at hSw); go_simp; all_goals with_reducible rfl)
              try simp only [Act.put, List.setIfInBounds_toArray, List.set_cons_zero, List.set_cons_succ]
              refine' wpAnyH_take (i := 6) ?hi6 (by kernel_rfl) (by kernel_rfl) (by kernel_rfl) ?hQ6 (Or.inl ⟨?hw6, ?hy6⟩) (by assumption) ?_
              case hi6 => (simp only [List.getElem?_toArray, List.getElem?_cons_succ, List.getElem?_cons_zero]; rfl)
              case hQ6 => exact fun _ _ _ h => h
              case hw6 => rfl
              case hy6 => (intro w' hSw; (try dsimp only at hSw); go_simp; all_goals with_reducible rfl)
              try simp only [Act.put, List.setIfInBounds_toArray, List.set_cons_zero, List.set_cons_succ]
              refine' wpAnyH_take (i := 7) ?hi7 (by kernel_rfl) (by kernel_rfl) (by kernel_rfl) ?hQ7 (Or.inl ⟨?hw7, ?hy7⟩) (by assumption) ?_
              case hi7 => (simp only [List.getElem?_toArray, List.getElem?_cons_succ, List.getElem?_cons_zero]; rfl)
              case hQ7 => exact fun _ _ _ h => h
              case hw7 => rfl
              case hy7 => (intro w' hSw; (try dsimp only at hSw); go_simp; all_goals with_reducible rfl)
              try simp only [Act.put, List.setIfInBounds_toArray, List.set_cons_zero, List.set_cons_succ]
              refine' wpAnyH_take (i := 8) ?hi8 (by kernel_rfl) (by kernel_rfl) (by kernel_rfl) ?hQ8 (Or.inl ⟨?hw8, ?hy8⟩) (by assumption) ?_
              case hi8 => (simp only [List.getElem?_toArray, List.getElem?_cons_succ, List.getElem?_cons_zero]; rfl)
              case hQ8 => exact fun _ _ _ h => h
              case hw8 => rfl
              case hy8 => (intro w' hSw; (try dsimp only at hSw); go_simp; all_goals with_reducible rfl)
              try simp only [Act.put, List.setIfInBounds_toArray, List.set_cons_zero, List.set_cons_succ]
              refine wpAnyH_ready (rs := [9]) (by kernel_rfl) (by simp) ?_
              refine AllReadyH.cons rfl (fun K hK => ?_) AllReadyH.nil
              go_simp
              (go_at_call 64; refine (all_any y.lines 43 _ _ (HLY.out.never (And.left (by assumption))) (by decide) (by decide) (by omega)).mono ?_; rintro e wq ⟨rq, rfl, hcq, hrq⟩; obtain ⟨qa, qc, rfl, _, _, _⟩ := rdv_slice hrq; have hS2 := two_keep (by assumption) hcq)
              try go_wp2_with fail
              refine hK.out _ _ ?_ (fun hH => ?_)
              · assumption
              clear hK K
              try simp only [Act.put, List.setIfInBounds_toArray, List.set_cons_zero, List.set_cons_succ]
              refine' wpAnyH_take (i := 10) ?hi10 (by kernel_rfl) (by kernel_rfl) (by kernel_rfl) ?hQ10 (Or.inl ⟨?hw10, ?hy10⟩) (by assumption) ?_
              case hi10 => (simp only [List.getElem?_toArray, List.getElem?_cons_succ, List.getElem?_cons_zero]; rfl)
              case hQ10 => exact fun _ _ _ h => h
              case hw10 => rfl
              case hy10 => (intro w' hSw; (try dsimp only at hSw); go_simp; all_goals with_reducible rfl)
              try simp only [Act.put, List.setIfInBounds_toArray, List.set_cons_zero, List.set_cons_succ]
              refine wpAnyH_ready (rs := [11]) (by kernel_rfl) (by simp) ?_
              refine AllReadyH.cons rfl (fun K hK => ?_) AllReadyH.nil
              go_simp
              refine hK.out _ _ (two_keep hH ((Chg.refl Never _).alloc _)) (fun hH2 => ?_)
              clear hK K
              try simp only [Act.put, List.setIfInBounds_toArray, List.set_cons_zero, List.set_cons_succ]
              have hnq := (hn.never (Chg.refl Never _).drew).never hcq
              have hyq : Dat.rd _ (fun k => Old wL.heap.size k ∨ _ = some k) _ (⟨2, y.path, wholeR y.lines 43⟩ : Change) := ⟨_, rfl, hpy, hn.fresh hrq⟩
              refine wpAnyH_ready (rs := [12]) (by kernel_rfl) (by simp) ?_
              refine AllReadyH.cons rfl (fun K hK => ?_) AllReadyH.nil
              refine step_push (by rfl) _ _ 51 (by rfl) elemOk_change (O := Old wL.heap.size) (l := L) (y := ⟨2, y.path, wholeR y.lines 43⟩) (by rfl) (by rfl) (by simp) hnq.own hyq hnq.olds hLl ?_
              intro v' wp hown2 hc2 hk2
              have hn2 := hnq.step1 hown2 hc2
              obtain ⟨oa2, on2, oc2, rfl⟩ := own_isSlice hn2.own
              refine hK.out _ _ ⟨hn2.chg, hn2.chg.cellNever D0.out, hn2.chg.cellNever D1.out⟩ (fun _ => ?_)
              clear hK K hnq hyq hown2 hc2 hk2 hH hH2 hS2 hcq hrq hn
              try simp only [Act.put, List.setIfInBounds_toArray, List.set_cons_zero, List.set_cons_succ]
              refine' wpAnyH_take (i := 13) ?hi13 (by kernel_rfl) (by kernel_rfl) (by kernel_rfl) ?hQ13 (Or.inl ⟨?hw13, ?hy13⟩) (by assumption) ?_
              case hi13 => (simp only [List.getElem?_toArray, List.getElem?_cons_succ, List.getElem?_cons_zero]; rfl)
              case hQ13 => exact fun _ _ _ h => h
              case hw13 => rfl
              case hy13 => (intro w' hSw; (try dsimp only at hSw); go_simp; all_goals with_reducible rfl)
              try simp only [Act.put, List.setIfInBounds_toArray, List.set_cons_zero, List.set_cons_succ]
              refine wpAnyH_done (by kernel_rfl) ?_ _
              go_wp2_with fail
              go_roundw
              case rel => exact ⟨_, B.drop 1, L ++ [⟨2, y.path, wholeR y.lines 43⟩], hA, hsb, hn2, FA, FB.out.drop, by rw [List.length_append, hdb]; simp; omega, by rw [Hid, List.append_assoc, ← HG.out]; exact HL.out⟩
              case measure => simp [sliceLen]; omega
          · obtain ⟨x, hx⟩ : ∃ x, A[0]? = some x := ⟨A[0], by simp [hA0]⟩
            obtain ⟨xb, xo, xv, rfl, _, _, c0, c1, hpx, hlx⟩ := elems_file a3 hx
            simp only [Nat.zero_mul, Nat.add_zero] at c0 c1
            have HLX := Lib.hid hlx
            have FX := Lib.hid (FA.out.get hx)
            have hxl := linesFault_len FX.out
            obtain ⟨xa, xcap, rfl, _, _, _⟩ := rdv_slice hlx
            have C0 := Lib.hid c0
            have C1 := Lib.hid c1
            have c0 := hn.chg.cellNever c0
            have c1 := hn.chg.cellNever c1
            have HX := Lib.hid hx
            obtain ⟨sa, _, hrunA, _, hsa⟩ := slice_gen (P := Tryz.prog) (t := 41) (by kernel_rfl) size_file hA 1 A.length (by omega) (Nat.le_refl _)
            have hrunA := fun (wx : World) => hrunA 1 wx rfl rfl
            rw [List.take_of_length_le (Nat.le_of_eq List.length_drop)] at hsa
            have hda : (A.drop 1).length = A.length - 1 := List.length_drop
            have p0 : ((A.length : Int) == 0) = false := beq_eq_false_iff_ne.2 (by omega)
            have p1 : decide ((A.length : Int) > 0) = true := by simp; omega
            clear hx hlx
            rcases Nat.eq_zero_or_pos B.length with hB0 | hB0
            · obtain rfl : B = [] := List.eq_nil_of_length_eq_zero hB0
              have HG := Lib.hid (diffG_take (n := n) (b := []) HX.out (.inl rfl))
              clear b3 a3
              go_wp2_with fail
              go_quiet (fail)
              generalize hqq : World.drewN wr _ = wr2
              have hn := hqq ▸ hn.never ((Chg.refl Never wr).drewN _)
              clear hqq
              try clear c0 c1
              try clear d0 d1
              try have c0 := hn.chg.cellNever C0.out
              try have c1 := hn.chg.cellNever C1.out
              try have d0 := hn.chg.cellNever D0.out
              try have d1 := hn.chg.cellNever D1.out
              go_wp2_with fail
              refine wp_region_held_drew (S := fun w' => Chg Never wL w' ∧ w'.cell? ⟨xb, xo, none⟩ = some (.string x.path) ∧ w'.cell? ⟨xb, xo + 1, none⟩ = some (.slice xa x.lines.length xcap)) (by kernel_rfl) ⟨hn.chg.drew, hn.chg.cellNever C0.out, hn.chg.cellNever C1.out⟩ (fun hH => ?_)
              refine' wpAnyH_take (i := 0) ?hi0 (by kernel_rfl) (by kernel_rfl) (by kernel_rfl) ?hQ0 (Or.inl ⟨?hw0, ?hy0⟩) (by assumption) ?_
              case hi0 => (simp only [List.getElem?_toArray, List.getElem?_cons_zero]; rfl)
              case hQ0 => exact fun _ _ _ h => h
              case hw0 => rfl
              case hy0 => (intro w' hSw; (try dsimp only at hSw); go_simp; all_goals with_reducible rfl)
              try simp only [Act.put, List.setIfInBounds_toArray, List.set_cons_zero, List.set_cons_succ]
              refine' wpAnyH_take (i := 1) ?hi1 (by kernel_rfl) (by kernel_rfl) (by kernel_rfl) ?hQ1 (Or.inl ⟨?hw1, ?hy1⟩) (by assumption) ?_
              case hi1 => (simp only [List.getElem?_toArray, List.getElem?_cons_succ, List.getElem?_cons_zero]; rfl)
              case hQ1 => exact fun _ _ _ h => h
              case hw1 => rfl
              case hy1 => (intro w' hSw; (try dsimp only at hSw); go_simp; all_goals with_reducible rfl)
              try simp only [Act.put, List.setIfInBounds_toArray, List.set_cons_zero, List.set_cons_succ]
              refine' wpAnyH_take (i := 2) ?hi2 (by kernel_rfl) (by kernel_rfl) (by kernel_rfl) ?hQ2 (Or.inl ⟨?hw2, ?hy2⟩) (by assumption) ?_
              case hi2 => (simp only [List.getElem?_toArray, List.getElem?_cons_succ, List.getElem?_cons_zero]; rfl)
              case hQ2 => exact fun _ _ _ h => h
              case hw2 => rfl
              case hy2 => (intro w' hSw; (try dsimp only at hSw); go_simp; all_goals with_reducible rfl)
              try simp only [Act.put, List.setIfInBounds_toArray, List.set_cons_zero, List.set_cons_succ]
              refine' wpAnyH_take (i := 3) ?hi3 (by kernel_rfl) (by kernel_rfl) (by kernel_rfl) ?hQ3 (Or.inl ⟨?hw3, ?hy3⟩) (by assumption) ?_
              case hi3 => (simp only [List.getElem?_toArray, List.getElem?_cons_succ, List.getElem?_cons_zero]; rfl)
              case hQ3 => exact fun _ _ _ h => h
              case hw3 => rfl
              case hy3 => (intro w' hSw; (try dsimp only at hSw); go_simp; all_goals with_reducible rfl)
              try simp only [Act.put, List.setIfInBounds_toArray, List.set_cons_zero, List.set_cons_succ]
              refine' wpAnyH_take (i := 4) ?hi4 (by kernel_rfl) (by kernel_rfl) (by kernel_rfl) ?hQ4 (Or.inl ⟨?hw4, ?hy4⟩) (by assumption) ?_
              case hi4 => (simp only [List.getElem?_toArray, List.getElem?_cons_succ, List.getElem?_cons_zero]; rfl)
              case hQ4 => exact fun _ _ _ h => h
              case hw4 => rfl
              case hy4 => (intro w' hSw; (try dsimp only at hSw); go_simp; all_goals with_reducible rfl)
              try simp only [Act.put, List.setIfInBounds_toArray, List.set_cons_zero, List.set_cons_succ]
              refine' wpAnyH_take (i := 5) ?hi5 (by kernel_rfl) (by kernel_rfl) (by kernel_rfl) ?hQ5 (Or.inl ⟨?hw5, ?hy5⟩) (by assumption) ?_
              case hi5 => (simp only [List.getElem?_toArray, List.getElem?_cons_succ, List.getElem?_cons_zero]; rfl)
              case hQ5 => exact fun _ _ _ h => h
              case hw5 => rfl
              case hy5 => (intro w' hSw; (try dsimp only at hSw); go_simp; all_goals with_reducible rfl)
              try simp only [Act.put, List.setIfInBounds_toArray, List.set_cons_zero, List.set_cons_succ]
              refine' wpAnyH_take (i := 6) ?hi6 (by kernel_rfl) (by kernel_rfl) (by kernel_rfl) ?hQ6 (Or.inl ⟨?hw6, ?hy6⟩) (by assumption) ?_
              case hi6 => (simp only [List.getElem?_toArray, List.getElem?_cons_succ, List.getElem?_cons_zero]; rfl)
              case hQ6 => exact fun _ _ _ h => h
              case hw6 => rfl
              case hy6 => (intro w' hSw; (try dsimp only at hSw); go_simp; all_goals with_reducible rfl)
              try simp only [Act.put, List.setIfInBounds_toArray, List.set_cons_zero, List.set_cons_succ]
              refine' wpAnyH_take (i := 7) ?hi7 (by kernel_rfl) (by kernel_rfl) (by kernel_rfl) ?hQ7 (Or.inl ⟨?hw7, ?hy7⟩) (by assumption) ?_
              case hi7 => (simp only [List.getElem?_toArray, List.getElem?_cons_succ, List.getElem?_cons_zero]; rfl)
              case hQ7 => exact fun _ _ _ h => h
              case hw7 => rfl
              case hy7 => (intro w' hSw; (try dsimp only at hSw); go_simp; all_goals with_reducible rfl)
              try simp only [Act.put, List.setIfInBounds_toArray, List.set_cons_zero, List.set_cons_succ]
              refine' wpAnyH_take (i := 8) ?hi8 (by kernel_rfl) (by kernel_rfl) (by kernel_rfl) ?hQ8 (Or.inl ⟨?hw8, ?hy8⟩) (by assumption) ?_
              case hi8 => (simp only [List.getElem?_toArray, List.getElem?_cons_succ, List.getElem?_cons_zero]; rfl)
              case hQ8 => exact fun _ _ _ h => h
              case hw8 => rfl
              case hy8 => (intro w' hSw; (try dsimp only at hSw); go_simp; all_goals with_reducible rfl)
              try simp only [Act.put, List.setIfInBounds_toArray, List.set_cons_zero, List.set_cons_succ]
              refine wpAnyH_ready (rs := [9]) (by kernel_rfl) (by simp) ?_
              refine AllReadyH.cons rfl (fun K hK => ?_) AllReadyH.nil
              go_simp
              (go_at_call 64; refine (all_any x.lines 45 _ _ (HLX.out.never (And.left (by assumption))) (by decide) (by decide) (by omega)).mono ?_; rintro e wq ⟨rq, rfl, hcq, hrq⟩; obtain ⟨qa, qc, rfl, _, _, _⟩ := rdv_slice hrq; have hS2 := two_keep (by assumption) hcq)
              try go_wp2_with fail
              refine hK.out _ _ ?_ (fun hH => ?_)
              · assumption
              clear hK K
              try simp only [Act.put, List.setIfInBounds_toArray, List.set_cons_zero, List.set_cons_succ]
              refine' wpAnyH_take (i := 10) ?hi10 (by kernel_rfl) (by kernel_rfl) (by kernel_rfl) ?hQ10 (Or.inl ⟨?hw10, ?hy10⟩) (by assumption) ?_
              case hi10 => (simp only [List.getElem?_toArray, List.getElem?_cons_succ, List.getElem?_cons_zero]; rfl)
              case hQ10 => exact fun _ _ _ h => h
              case hw10 => rfl
              case hy10 => (intro w' hSw; (try dsimp only at hSw); go_simp; all_goals with_reducible rfl)
              try simp only [Act.put, List.setIfInBounds_toArray, List.set_cons_zero, List.set_cons_succ]
              refine wpAnyH_ready (rs := [11]) (by kernel_rfl) (by simp) ?_
              refine AllReadyH.cons rfl (fun K hK => ?_) AllReadyH.nil
              go_simp
              refine hK.out _ _ (two_keep hH ((Chg.refl Never _).alloc _)) (fun hH2 => ?_)
              clear hK K
              try simp only [Act.put, List.setIfInBounds_toArray, List.set_cons_zero, List.set_cons_succ]
              have hnq := (hn.never (Chg.refl Never _).drew).never hcq
              have hyq : Dat.rd _ (fun k => Old wL.heap.size k ∨ _ = some k) _ (⟨3, x.path, wholeR x.lines 45⟩ : Change) := ⟨_, rfl, hpx, hn.fresh hrq⟩
              refine wpAnyH_ready (rs := [12]) (by kernel_rfl) (by simp) ?_
              refine AllReadyH.cons rfl (fun K hK => ?_) AllReadyH.nil
              refine step_push (by rfl) _ _ 51 (by rfl) elemOk_change (O := Old wL.heap.size) (l := L) (y := ⟨3, x.path, wholeR x.lines 45⟩) (by rfl) (by rfl) (by simp) hnq.own hyq hnq.olds hLl ?_
              intro v' wp hown2 hc2 hk2
              have hn2 := hnq.step1 hown2 hc2
              obtain ⟨oa2, on2, oc2, rfl⟩ := own_isSlice hn2.own
              refine hK.out _ _ ⟨hn2.chg, hn2.chg.cellNever C0.out, hn2.chg.cellNever C1.out⟩ (fun _ => ?_)
              clear hK K hnq hyq hown2 hc2 hk2 hH hH2 hS2 hcq hrq hn
              try simp only [Act.put, List.setIfInBounds_toArray, List.set_cons_zero, List.set_cons_succ]
              refine' wpAnyH_take (i := 13) ?hi13 (by kernel_rfl) (by kernel_rfl) (by kernel_rfl) ?hQ13 (Or.inl ⟨?hw13, ?hy13⟩) (by assumption) ?_
              case hi13 => (simp only [List.getElem?_toArray, List.getElem?_cons_succ, List.getElem?_cons_zero]; rfl)
              case hQ13 => exact fun _ _ _ h => h
              case hw13 => rfl
              case hy13 => (intro w' hSw; (try dsimp only at hSw); go_simp; all_goals with_reducible rfl)
              try simp only [Act.put, List.setIfInBounds_toArray, List.set_cons_zero, List.set_cons_succ]
              refine wpAnyH_done (by kernel_rfl) ?_ _
              go_wp2_with fail
              go_roundw
              case rel => exact ⟨A.drop 1, _, L ++ [⟨3, x.path, wholeR x.lines 45⟩], hsa, hB, hn2, FA.out.drop, FB, by rw [List.length_append, hda]; simp; omega, by rw [Hid, List.append_assoc, ← HG.out]; exact HL.out⟩
              case measure => simp [sliceLen]; omega
            · obtain ⟨y, hy⟩ : ∃ y, B[0]? = some y := ⟨B[0], by simp [hB0]⟩
              obtain ⟨yb, yo, yv, rfl, _, _, d0, d1, hpy, hly⟩ := elems_file b3 hy
              simp only [Nat.zero_mul, Nat.add_zero] at d0 d1
              have HLY := Lib.hid hly
              have FY := Lib.hid (FB.out.get hy)
              have hyl := linesFault_len FY.out
              obtain ⟨ya, ycap, rfl, _, _, _⟩ := rdv_slice hly
              have D0 := Lib.hid d0
              have D1 := Lib.hid d1
              have d0 := hn.chg.cellNever d0
              have d1 := hn.chg.cellNever d1
              have HY := Lib.hid hy
              obtain ⟨sb, _, hrunB, _, hsb⟩ := slice_gen (P := Tryz.prog) (t := 41) (by kernel_rfl) size_file hB 1 B.length (by omega) (Nat.le_refl _)
              have hrunB := fun (wx : World) => hrunB 1 wx rfl rfl
              rw [List.take_of_length_le (Nat.le_of_eq List.length_drop)] at hsb
              have hdb : (B.drop 1).length = B.length - 1 := List.length_drop
              have q0 : ((B.length : Int) == 0) = false := beq_eq_false_iff_ne.2 (by omega)
              have q1 : decide ((B.length : Int) > 0) = true := by simp; omega
              clear hy hly
              by_cases l1 : less x.path y.path = true
              · have t1 : Op.bytesLess x.path.toList y.path.toList = true := l1
                have HG := Lib.hid (diffG_take (n := n) HX.out (.inr ⟨y, HY.out, l1⟩))
                clear a3 b3 l1
                go_wp2_with fail
                go_quiet (fail)
                generalize hqq : World.drewN wr _ = wr2
                have hn := hqq ▸ hn.never ((Chg.refl Never wr).drewN _)
                clear hqq
                try clear c0 c1
                try clear d0 d1
                try have c0 := hn.chg.cellNever C0.out
                try have c1 := hn.chg.cellNever C1.out
                try have d0 := hn.chg.cellNever D0.out
                try have d1 := hn.chg.cellNever D1.out
                go_wp2_with fail
                refine wp_region_held_drew (S := fun w' => Chg Never wL w' ∧ w'.cell? ⟨xb, xo, none⟩ = some (.string x.path) ∧ w'.cell? ⟨xb, xo + 1, none⟩ = some (.slice xa x.lines.length xcap)) (by kernel_rfl) ⟨hn.chg.drew, hn.chg.cellNever C0.out, hn.chg.cellNever C1.out⟩ (fun hH => ?_)
                refine' wpAnyH_take (i := 0) ?hi0 (by kernel_rfl) (by kernel_rfl) (by kernel_rfl) ?hQ0 (Or.inl ⟨?hw0, ?hy0⟩) (by assumption) ?_
                case hi0 => (simp only [List.getElem?_toArray, List.getElem?_cons_zero]; rfl)
                case hQ0 => exact fun _ _ _ h => h
                case hw0 => rfl
                case hy0 => (intro w' hSw; (try dsimp only at hSw); go_simp; all_goals with_reducible rfl)
                try simp only [Act.put, List.setIfInBounds_toArray, List.set_cons_zero, List.set_cons_succ]
                refine' wpAnyH_take (i := 1) ?hi1 (by kernel_rfl) (by kernel_rfl) (by kernel_rfl) ?hQ1 (Or.inl ⟨?hw1, ?hy1⟩) (by assumption) ?_
                case hi1 => (simp only [List.getElem?_toArray, List.getElem?_cons_succ, List.getElem?_cons_zero]; rfl)
                case hQ1 => exact fun _ _ _ h => h
                case hw1 => rfl
                case hy1 => (intro w' hSw; (try dsimp only at hSw); go_simp; all_goals with_reducible rfl)
                try simp only [Act.put, List.setIfInBounds_toArray, List.set_cons_zero, List.set_cons_succ]
                refine' wpAnyH_take (i := 2) ?hi2 (by kernel_rfl) (by kernel_rfl) (by kernel_rfl) ?hQ2 (Or.inl ⟨?hw2, ?hy2⟩) (by assumption) ?_
                case hi2 => (simp only [List.getElem?_toArray, List.getElem?_cons_succ, List.getElem?_cons_zero]; rfl)
                case hQ2 => exact fun _ _ _ h => h
                case hw2 => rfl
                case hy2 => (intro w' hSw; (try dsimp only at hSw); go_simp; all_goals with_reducible rfl)
                try simp only [Act.put, List.setIfInBounds_toArray, List.set_cons_zero, List.set_cons_succ]
                refine' wpAnyH_take (i := 3) ?hi3 (by kernel_rfl) (by kernel_rfl) (by kernel_rfl) ?hQ3 (Or.inl ⟨?hw3, ?hy3⟩) (by assumption) ?_
                case hi3 => (simp only [List.getElem?_toArray, List.getElem?_cons_succ, List.getElem?_cons_zero]; rfl)
                case hQ3 => exact fun _ _ _ h => h
                case hw3 => rfl
                case hy3 => (intro w' hSw; (try dsimp only at hSw); go_simp; all_goals with_reducible rfl)
                try simp only [Act.put, List.setIfInBounds_toArray, List.set_cons_zero, List.set_cons_succ]
                refine' wpAnyH_take (i := 4) ?hi4 (by kernel_rfl) (by kernel_rfl) (by kernel_rfl) ?hQ4 (Or.inl ⟨?hw4, ?hy4⟩) (by assumption) ?_
                case hi4 => (simp only [List.getElem?_toArray, List.getElem?_cons_succ, List.getElem?_cons_zero]; rfl)
                case hQ4 => exact fun _ _ _ h => h
                case hw4 => rfl
                case hy4 => (intro w' hSw; (try dsimp only at hSw); go_simp; all_goals with_reducible rfl)
                try simp only [Act.put, List.setIfInBounds_toArray, List.set_cons_zero, List.set_cons_succ]
                refine' wpAnyH_take (i := 5) ?hi5 (by kernel_rfl) (by kernel_rfl) (by kernel_rfl) ?hQ5 (Or.inl ⟨?hw5, ?hy5⟩) (by assumption) ?_
                case hi5 => (simp only [List.getElem?_toArray, List.getElem?_cons_succ, List.getElem?_cons_zero]; rfl)
                case hQ5 => exact fun _ _ _ h => h
                case hw5 => rfl
                case hy5 => (intro w' hSw; (try dsimp only at hSw); go_simp; all_goals with_reducible rfl)
                try simp only [Act.put, List.setIfInBounds_toArray, List.set_cons_zero, List.set_cons_succ]
                refine' wpAnyH_take (i := 6) ?hi6 (by kernel_rfl) (by kernel_rfl) (by kernel_rfl) ?hQ6 (Or.inl ⟨?hw6, ?hy6⟩) (by assumption) ?_
                case hi6 => (simp only [List.getElem?_toArray, List.getElem?_cons_succ, List.getElem?_cons_zero]; rfl)
                case hQ6 => exact fun _ _ _ h => h
                case hw6 => rfl
                case hy6 => (intro w' hSw; (try dsimp only at hSw); go_simp; all_goals with_reducible rfl)
                try simp only [Act.put, List.setIfInBounds_toArray, List.set_cons_zero, List.set_cons_succ]
                refine' wpAnyH_take (i := 7) ?hi7 (by kernel_rfl) (by kernel_rfl) (by kernel_rfl) ?hQ7 (Or.inl ⟨?hw7, ?hy7⟩) (by assumption) ?_
                case hi7 => (simp only [List.getElem?_toArray, List.getElem?_cons_succ, List.getElem?_cons_zero]; rfl)
                case hQ7 => exact fun _ _ _ h => h
                case hw7 => rfl
                case hy7 => (intro w' hSw; (try dsimp only at hSw); go_simp; all_goals with_reducible rfl)
                try simp only [Act.put, List.setIfInBounds_toArray, List.set_cons_zero, List.set_cons_succ]
                refine' wpAnyH_take (i := 8) ?hi8 (by kernel_rfl) (by kernel_rfl) (by kernel_rfl) ?hQ8 (Or.inl ⟨?hw8, ?hy8⟩) (by assumption) ?_
                case hi8 => (simp only [List.getElem?_toArray, List.getElem?_cons_succ, List.getElem?_cons_zero]; rfl)
                case hQ8 => exact fun _ _ _ h => h
                case hw8 => rfl
                case hy8 => (intro w' hSw; (try dsimp only at hSw); go_simp; all_goals with_reducible rfl)
                try simp only [Act.put, List.setIfInBounds_toArray, List.set_cons_zero, List.set_cons_succ]
                refine wpAnyH_ready (rs := [9]) (by kernel_rfl) (by simp) ?_
                refine AllReadyH.cons rfl (fun K hK => ?_) AllReadyH.nil
                go_simp
                (go_at_call 64; refine (all_any x.lines 45 _ _ (HLX.out.never (And.left (by assumption))) (by decide) (by decide) (by omega)).mono ?_; rintro e wq ⟨rq, rfl, hcq, hrq⟩; obtain ⟨qa, qc, rfl, _, _, _⟩ := rdv_slice hrq; have hS2 := two_keep (by assumption) hcq)
                try go_wp2_with fail
                refine hK.out _ _ ?_ (fun hH => ?_)
                · assumption
                clear hK K
                try simp only [Act.put, List.setIfInBounds_toArray, List.set_cons_zero, List.set_cons_succ]
                refine' wpAnyH_take (i := 10) ?hi10 (by kernel_rfl) (by kernel_rfl) (by kernel_rfl) ?hQ10 (Or.inl ⟨?hw10, ?hy10⟩) (by assumption) ?_
                case hi10 => (simp only [List.getElem?_toArray, List.getElem?_cons_succ, List.getElem?_cons_zero]; rfl)
                case hQ10 => exact fun _ _ _ h => h
                case hw10 => rfl
                case hy10 => (intro w' hSw; (try dsimp only at hSw); go_simp; all_goals with_reducible rfl)
                try simp only [Act.put, List.setIfInBounds_toArray, List.set_cons_zero, List.set_cons_succ]
                refine wpAnyH_ready (rs := [11]) (by kernel_rfl) (by simp) ?_
                refine AllReadyH.cons rfl (fun K hK => ?_) AllReadyH.nil
                go_simp
                refine hK.out _ _ (two_keep hH ((Chg.refl Never _).alloc _)) (fun hH2 => ?_)
                clear hK K
                try simp only [Act.put, List.setIfInBounds_toArray, List.set_cons_zero, List.set_cons_succ]
                have hnq := (hn.never (Chg.refl Never _).drew).never hcq
                have hyq : Dat.rd _ (fun k => Old wL.heap.size k ∨ _ = some k) _ (⟨3, x.path, wholeR x.lines 45⟩ : Change) := ⟨_, rfl, hpx, hn.fresh hrq⟩
                refine wpAnyH_ready (rs := [12]) (by kernel_rfl) (by simp) ?_
                refine AllReadyH.cons rfl (fun K hK => ?_) AllReadyH.nil
                refine step_push (by rfl) _ _ 51 (by rfl) elemOk_change (O := Old wL.heap.size) (l := L) (y := ⟨3, x.path, wholeR x.lines 45⟩) (by rfl) (by rfl) (by simp) hnq.own hyq hnq.olds hLl ?_
                intro v' wp hown2 hc2 hk2
                have hn2 := hnq.step1 hown2 hc2
                obtain ⟨oa2, on2, oc2, rfl⟩ := own_isSlice hn2.own
                refine hK.out _ _ ⟨hn2.chg, hn2.chg.cellNever C0.out, hn2.chg.cellNever C1.out⟩ (fun _ => ?_)
                clear hK K hnq hyq hown2 hc2 hk2 hH hH2 hS2 hcq hrq hn
                try simp only [Act.put, List.setIfInBounds_toArray, List.set_cons_zero, List.set_cons_succ]
                refine' wpAnyH_take (i := 13) ?hi13 (by kernel_rfl) (by kernel_rfl) (by kernel_rfl) ?hQ13 (Or.inl ⟨?hw13, ?hy13⟩) (by assumption) ?_
                case hi13 => (simp only [List.getElem?_toArray, List.getElem?_cons_succ, List.getElem?_cons_zero]; rfl)
                case hQ13 => exact fun _ _ _ h => h
                case hw13 => rfl
                case hy13 => (intro w' hSw; (try dsimp only at hSw); go_simp; all_goals with_reducible rfl)
                try simp only [Act.put, List.setIfInBounds_toArray, List.set_cons_zero, List.set_cons_succ]
                refine wpAnyH_done (by kernel_rfl) ?_ _
                go_wp2_with fail
                go_roundw
                case rel => exact ⟨A.drop 1, _, L ++ [⟨3, x.path, wholeR x.lines 45⟩], hsa, hB, hn2, FA.out.drop, FB, by rw [List.length_append, hda]; simp; omega, by rw [Hid, List.append_assoc, ← HG.out]; exact HL.out⟩
                case measure => simp [sliceLen]; omega
              · have t1 : Op.bytesLess x.path.toList y.path.toList = false := by simpa [less] using l1
                by_cases l2 : less y.path x.path = true
                · have t2 : Op.bytesLess y.path.toList x.path.toList = true := l2
                  have HG := Lib.hid (diffG_put (n := n) HY.out (.inr ⟨x, HX.out, l1, l2⟩))
                  clear a3 b3 l1 l2
                  go_wp2_with fail
                  go_quiet (fail)
                  generalize hqq : World.drewN wr _ = wr2
                  have hn := hqq ▸ hn.never ((Chg.refl Never wr).drewN _)
                  clear hqq
                  try clear c0 c1
                  try clear d0 d1
                  try have c0 := hn.chg.cellNever C0.out
                  try have c1 := hn.chg.cellNever C1.out
                  try have d0 := hn.chg.cellNever D0.out
                  try have d1 := hn.chg.cellNever D1.out
                  go_wp2_with fail
                  go_quiet (fail)
                  generalize hqq : World.drewN wr2 _ = wr3
                  have hn := hqq ▸ hn.never ((Chg.refl Never wr2).drewN _)
                  clear hqq
                  try clear c0 c1
                  try clear d0 d1
                  try have c0 := hn.chg.cellNever C0.out
                  try have c1 := hn.chg.cellNever C1.out
                  try have d0 := hn.chg.cellNever D0.out
                  try have d1 := hn.chg.cellNever D1.out
                  go_wp2_with fail
                  refine wp_region_held_drew (S := fun w' => Chg Never wL w' ∧ w'.cell? ⟨yb, yo, none⟩ = some (.string y.path) ∧ w'.cell? ⟨yb, yo + 1, none⟩ = some (.slice ya y.lines.length ycap)) (by kernel_rfl) ⟨hn.chg.drew, hn.chg.cellNever D0.out, hn.chg.cellNever D1.out⟩ (fun hH => ?_)
                  refine' wpAnyH_take (i := 0) ?hi0 (by kernel_rfl) (by kernel_rfl) (by kernel_rfl) ?hQ0 (Or.inl ⟨?hw0, ?hy0⟩) (by assumption) ?_
                  case hi0 => (simp only [List.getElem?_toArray, List.getElem?_cons_zero]; rfl)
                  case hQ0 => exact fun _ _ _ h => h
                  case hw0 => rfl
                  case hy0 => (intro w' hSw; (try dsimp only at hSw); go_simp; all_goals with_reducible rfl)
                  try simp only [Act.put, List.setIfInBounds_toArray, List.set_cons_zero, List.set_cons_succ]
                  refine' wpAnyH_take (i := 1) ?hi1 (by kernel_rfl) (by kernel_rfl) (by kernel_rfl) ?hQ1 (Or.inl ⟨?hw1, ?hy1⟩) (by assumption) ?_
                  case hi1 => (simp only [List.getElem?_toArray, List.getElem?_cons_succ, List.getElem?_cons_zero]; rfl)
                  case hQ1 => exact fun _ _ _ h => h
                  case hw1 => rfl
                  case hy1 => (intro w' hSw; (try dsimp only at hSw); go_simp; all_goals with_reducible rfl)
                  try simp only [Act.put, List.setIfInBounds_toArray, List.set_cons_zero, List.set_cons_succ]
                  refine' wpAnyH_take (i := 2) ?hi2 (by kernel_rfl) (by kernel_rfl) (by kernel_rfl) ?hQ2 (Or.inl ⟨?hw2, ?hy2⟩) (by assumption) ?_
                  case hi2 => (simp only [List.getElem?_toArray, List.getElem?_cons_succ, List.getElem?_cons_zero]; rfl)
                  case hQ2 => exact fun _ _ _ h => h
                  case hw2 => rfl
                  case hy2 => (intro w' hSw; (try dsimp only at hSw); go_simp; all_goals with_reducible rfl)
                  try simp only [Act.put, List.setIfInBounds_toArray, List.set_cons_zero, List.set_cons_succ]
                  refine' wpAnyH_take (i := 3) ?hi3 (by kernel_rfl) (by kernel_rfl) (by kernel_rfl) ?hQ3 (Or.inl ⟨?hw3, ?hy3⟩) (by assumption) ?_
                  case hi3 => (simp only [List.getElem?_toArray, List.getElem?_cons_succ, List.getElem?_cons_zero]; rfl)
                  case hQ3 => exact fun _ _ _ h => h
                  case hw3 => rfl
                  case hy3 => (intro w' hSw; (try dsimp only at hSw); go_simp; all_goals with_reducible rfl)
                  try simp only [Act.put, List.setIfInBounds_toArray, List.set_cons_zero, List.set_cons_succ]
                  refine' wpAnyH_take (i := 4) ?hi4 (by kernel_rfl) (by kernel_rfl) (by kernel_rfl) ?hQ4 (Or.inl ⟨?hw4, ?hy4⟩) (by assumption) ?_
                  case hi4 => (simp only [List.getElem?_toArray, List.getElem?_cons_succ, List.getElem?_cons_zero]; rfl)
                  case hQ4 => exact fun _ _ _ h => h
                  case hw4 => rfl
                  case hy4 => (intro w' hSw; (try dsimp only at hSw); go_simp; all_goals with_reducible rfl)
                  try simp only [Act.put, List.setIfInBounds_toArray, List.set_cons_zero, List.set_cons_succ]
                  refine' wpAnyH_take (i := 5) ?hi5 (by kernel_rfl) (by kernel_rfl) (by kernel_rfl) ?hQ5 (Or.inl ⟨?hw5, ?hy5⟩) (by assumption) ?_
                  case hi5 => (simp only [List.getElem?_toArray, List.getElem?_cons_succ, List.getElem?_cons_zero]; rfl)
                  case hQ5 => exact fun _ _ _ h => h
                  case hw5 => rfl
                  case hy5 => (intro w' hSw; (try dsimp only at hSw); go_simp; all_goals with_reducible rfl)
                  try simp only [Act.put, List.setIfInBounds_toArray, List.set_cons_zero, List.set_cons_succ]
                  refine' wpAnyH_take (i := 6) ?hi6 (by kernel_rfl) (by kernel_rfl) (by kernel_rfl) ?hQ6 (Or.inl ⟨?hw6, ?hy6⟩) (by assumption) ?_
                  case hi6 => (simp only [List.getElem?_toArray, List.getElem?_cons_succ, List.getElem?_cons_zero]; rfl)
                  case hQ6 => exact fun _ _ _ h => h
                  case hw6 => rfl
                  case hy6 => (intro w' hSw; (try dsimp only at hSw); go_simp; all_goals with_reducible rfl)
                  try simp only [Act.put, List.setIfInBounds_toArray, List.set_cons_zero, List.set_cons_succ]
                  refine' wpAnyH_take (i := 7) ?hi7 (by kernel_rfl) (by kernel_rfl) (by kernel_rfl) ?hQ7 (Or.inl ⟨?hw7, ?hy7⟩) (by assumption) ?_
                  case hi7 => (simp only [List.getElem?_toArray, List.getElem?_cons_succ, List.getElem?_cons_zero]; rfl)
                  case hQ7 => exact fun _ _ _ h => h
                  case hw7 => rfl
                  case hy7 => (intro w' hSw; (try dsimp only at hSw); go_simp; all_goals with_reducible rfl)
                  try simp only [Act.put, List.setIfInBounds_toArray, List.set_cons_zero, List.set_cons_succ]
                  refine' wpAnyH_take (i := 8) ?hi8 (by kernel_rfl) (by kernel_rfl) (by kernel_rfl) ?hQ8 (Or.inl ⟨?hw8, ?hy8⟩) (by assumption) ?_
                  case hi8 => (simp only [List.getElem?_toArray, List.getElem?_cons_succ, List.getElem?_cons_zero]; rfl)
                  case hQ8 => exact fun _ _ _ h => h
                  case hw8 => rfl
                  case hy8 => (intro w' hSw; (try dsimp only at hSw); go_simp; all_goals with_reducible rfl)
                  try simp only [Act.put, List.setIfInBounds_toArray, List.set_cons_zero, List.set_cons_succ]
                  refine wpAnyH_ready (rs := [9]) (by kernel_rfl) (by simp) ?_
                  refine AllReadyH.cons rfl (fun K hK => ?_) AllReadyH.nil
                  go_simp
                  (go_at_call 64; refine (all_any y.lines 43 _ _ (HLY.out.never (And.left (by assumption))) (by decide) (by decide) (by omega)).mono ?_; rintro e wq ⟨rq, rfl, hcq, hrq⟩; obtain ⟨qa, qc, rfl, _, _, _⟩ := rdv_slice hrq; have hS2 := two_keep (by assumption) hcq)
                  try go_wp2_with fail
                  refine hK.out _ _ ?_ (fun hH => ?_)
                  · assumption
                  clear hK K
                  try simp only [Act.put, List.setIfInBounds_toArray, List.set_cons_zero, List.set_cons_succ]
                  refine' wpAnyH_take (i := 10) ?hi10 (by kernel_rfl) (by kernel_rfl) (by kernel_rfl) ?hQ10 (Or.inl ⟨?hw10, ?hy10⟩) (by assumption) ?_
                  case hi10 => (simp only [List.getElem?_toArray, List.getElem?_cons_succ, List.getElem?_cons_zero]; rfl)
                  case hQ10 => exact fun _ _ _ h => h
                  case hw10 => rfl
                  case hy10 => (intro w' hSw; (try dsimp only at hSw); go_simp; all_goals with_reducible rfl)
                  try simp only [Act.put, List.setIfInBounds_toArray, List.set_cons_zero, List.set_cons_succ]
                  refine wpAnyH_ready (rs := [11]) (by kernel_rfl) (by simp) ?_
                  refine AllReadyH.cons rfl (fun K hK => ?_) AllReadyH.nil
                  go_simp
                  refine hK.out _ _ (two_keep hH ((Chg.refl Never _).alloc _)) (fun hH2 => ?_)
                  clear hK K
                  try simp only [Act.put, List.setIfInBounds_toArray, List.set_cons_zero, List.set_cons_succ]
                  have hnq := (hn.never (Chg.refl Never _).drew).never hcq
                  have hyq : Dat.rd _ (fun k => Old wL.heap.size k ∨ _ = some k) _ (⟨2, y.path, wholeR y.lines 43⟩ : Change) := ⟨_, rfl, hpy, hn.fresh hrq⟩
                  refine wpAnyH_ready (rs := [12]) (by kernel_rfl) (by simp) ?_
                  refine AllReadyH.cons rfl (fun K hK => ?_) AllReadyH.nil
                  refine step_push (by rfl) _ _ 51 (by rfl) elemOk_change (O := Old wL.heap.size) (l := L) (y := ⟨2, y.path, wholeR y.lines 43⟩) (by rfl) (by rfl) (by simp) hnq.own hyq hnq.olds hLl ?_
                  intro v' wp hown2 hc2 hk2
                  have hn2 := hnq.step1 hown2 hc2
                  obtain ⟨oa2, on2, oc2, rfl⟩ := own_isSlice hn2.own
                  refine hK.out _ _ ⟨hn2.chg, hn2.chg.cellNever D0.out, hn2.chg.cellNever D1.out⟩ (fun _ => ?_)
                  clear hK K hnq hyq hown2 hc2 hk2 hH hH2 hS2 hcq hrq hn
                  try simp only [Act.put, List.setIfInBounds_toArray, List.set_cons_zero, List.set_cons_succ]
                  refine' wpAnyH_take (i := 13) ?hi13 (by kernel_rfl) (by kernel_rfl) (by kernel_rfl) ?hQ13 (Or.inl ⟨?hw13, ?hy13⟩) (by assumption) ?_
                  case hi13 => (simp only [List.getElem?_toArray, List.getElem?_cons_succ, List.getElem?_cons_zero]; rfl)
                  case hQ13 => exact fun _ _ _ h => h
                  case hw13 => rfl
                  case hy13 => (intro w' hSw; (try dsimp only at hSw); go_simp; all_goals with_reducible rfl)
                  try simp only [Act.put, List.setIfInBounds_toArray, List.set_cons_zero, List.set_cons_succ]
                  refine wpAnyH_done (by kernel_rfl) ?_ _
                  go_wp2_with fail
                  go_roundw
                  case rel => exact ⟨_, B.drop 1, L ++ [⟨2, y.path, wholeR y.lines 43⟩], hA, hsb, hn2, FA, FB.out.drop, by rw [List.length_append, hdb]; simp; omega, by rw [Hid, List.append_assoc, ← HG.out]; exact HL.out⟩
                  case measure => simp [sliceLen]; omega
                · have t2 : Op.bytesLess y.path.toList x.path.toList = false := by simpa [less] using l2
                  have HG := Lib.hid (diffG_both (n := n) HX.out HY.out l1 l2)
                  have HMK := Lib.hid (make_valid FX.out FY.out n0 n1)
                  clear a3 b3 l1 l2
                  go_wp2_with fail
                  go_quiet (fail)
                  generalize hqq : World.drewN wr _ = wr2
                  have hn := hqq ▸ hn.never ((Chg.refl Never wr).drewN _)
                  clear hqq
                  try clear c0 c1
                  try clear d0 d1
                  try have c0 := hn.chg.cellNever C0.out
                  try have c1 := hn.chg.cellNever C1.out
                  try have d0 := hn.chg.cellNever D0.out
                  try have d1 := hn.chg.cellNever D1.out
                  go_wp2_with fail
                  go_quiet (fail)
                  generalize hqq : World.drewN wr2 _ = wr3
                  have hn := hqq ▸ hn.never ((Chg.refl Never wr2).drewN _)
                  clear hqq
                  try clear c0 c1
                  try clear d0 d1
                  try have c0 := hn.chg.cellNever C0.out
                  try have c1 := hn.chg.cellNever C1.out
                  try have d0 := hn.chg.cellNever D0.out
                  try have d1 := hn.chg.cellNever D1.out
                  go_wp2_with fail
                  refine wp_region_held_drew (S := fun w' => Chg Never wL w' ∧ w'.cell? ⟨xb, xo + 1, none⟩ = some (.slice xa x.lines.length xcap) ∧ w'.cell? ⟨yb, yo + 1, none⟩ = some (.slice ya y.lines.length ycap)) (by kernel_rfl) ⟨hn.chg.drew, c1, d1⟩ (fun hH => ?_)
                  refine' wpAnyH_take (i := 0) ?hi0 (by kernel_rfl) (by kernel_rfl) (by kernel_rfl) ?hQ0 (Or.inl ⟨?hw0, ?hy0⟩) (by assumption) ?_
                  case hi0 => (simp only [List.getElem?_toArray, List.getElem?_cons_zero]; rfl)
                  case hQ0 => exact fun _ _ _ h => h
                  case hw0 => rfl
                  case hy0 => (intro w' hSw; (try dsimp only at hSw); go_simp; all_goals with_reducible rfl)
                  try simp only [Act.put, List.setIfInBounds_toArray, List.set_cons_zero, List.set_cons_succ]
                  refine' wpAnyH_take (i := 1) ?hi1 (by kernel_rfl) (by kernel_rfl) (by kernel_rfl) ?hQ1 (Or.inl ⟨?hw1, ?hy1⟩) (by assumption) ?_
                  case hi1 => (simp only [List.getElem?_toArray, List.getElem?_cons_succ, List.getElem?_cons_zero]; rfl)
                  case hQ1 => exact fun _ _ _ h => h
                  case hw1 => rfl
                  case hy1 => (intro w' hSw; (try dsimp only at hSw); go_simp; all_goals with_reducible rfl)
                  try simp only [Act.put, List.setIfInBounds_toArray, List.set_cons_zero, List.set_cons_succ]
                  refine' wpAnyH_take (i := 2) ?hi2 (by kernel_rfl) (by kernel_rfl) (by kernel_rfl) ?hQ2 (Or.inl ⟨?hw2, ?hy2⟩) (by assumption) ?_
                  case hi2 => (simp only [List.getElem?_toArray, List.getElem?_cons_succ, List.getElem?_cons_zero]; rfl)
                  case hQ2 => exact fun _ _ _ h => h
                  case hw2 => rfl
                  case hy2 => (intro w' hSw; (try dsimp only at hSw); go_simp; all_goals with_reducible rfl)
                  try simp only [Act.put, List.setIfInBounds_toArray, List.set_cons_zero, List.set_cons_succ]
                  refine' wpAnyH_take (i := 3) ?hi3 (by kernel_rfl) (by kernel_rfl) (by kernel_rfl) ?hQ3 (Or.inl ⟨?hw3, ?hy3⟩) (by assumption) ?_
                  case hi3 => (simp only [List.getElem?_toArray, List.getElem?_cons_succ, List.getElem?_cons_zero]; rfl)
                  case hQ3 => exact fun _ _ _ h => h
                  case hw3 => rfl
                  case hy3 => (intro w' hSw; (try dsimp only at hSw); go_simp; all_goals with_reducible rfl)
                  try simp only [Act.put, List.setIfInBounds_toArray, List.set_cons_zero, List.set_cons_succ]
                  refine' wpAnyH_take (i := 4) ?hi4 (by kernel_rfl) (by kernel_rfl) (by kernel_rfl) ?hQ4 (Or.inl ⟨?hw4, ?hy4⟩) (by assumption) ?_
                  case hi4 => (simp only [List.getElem?_toArray, List.getElem?_cons_succ, List.getElem?_cons_zero]; rfl)
                  case hQ4 => exact fun _ _ _ h => h
                  case hw4 => rfl
                  case hy4 => (intro w' hSw; (try dsimp only at hSw); go_simp; all_goals with_reducible rfl)
                  try simp only [Act.put, List.setIfInBounds_toArray, List.set_cons_zero, List.set_cons_succ]
                  refine' wpAnyH_take (i := 5) ?hi5 (by kernel_rfl) (by kernel_rfl) (by kernel_rfl) ?hQ5 (Or.inl ⟨?hw5, ?hy5⟩) (by assumption) ?_
                  case hi5 => (simp only [List.getElem?_toArray, List.getElem?_cons_succ, List.getElem?_cons_zero]; rfl)
                  case hQ5 => exact fun _ _ _ h => h
                  case hw5 => rfl
                  case hy5 => (intro w' hSw; (try dsimp only at hSw); go_simp; all_goals with_reducible rfl)
                  try simp only [Act.put, List.setIfInBounds_toArray, List.set_cons_zero, List.set_cons_succ]
                  refine' wpAnyH_take (i := 6) ?hi6 (by kernel_rfl) (by kernel_rfl) (by kernel_rfl) ?hQ6 (Or.inl ⟨?hw6, ?hy6⟩) (by assumption) ?_
                  case hi6 => (simp only [List.getElem?_toArray, List.getElem?_cons_succ, List.getElem?_cons_zero]; rfl)
                  case hQ6 => exact fun _ _ _ h => h
                  case hw6 => rfl
                  case hy6 => (intro w' hSw; (try dsimp only at hSw); go_simp; all_goals with_reducible rfl)
                  try simp only [Act.put, List.setIfInBounds_toArray, List.set_cons_zero, List.set_cons_succ]
                  refine' wpAnyH_take (i := 7) ?hi7 (by kernel_rfl) (by kernel_rfl) (by kernel_rfl) ?hQ7 (Or.inl ⟨?hw7, ?hy7⟩) (by assumption) ?_
                  case hi7 => (simp only [List.getElem?_toArray, List.getElem?_cons_succ, List.getElem?_cons_zero]; rfl)
                  case hQ7 => exact fun _ _ _ h => h
                  case hw7 => rfl
                  case hy7 => (intro w' hSw; (try dsimp only at hSw); go_simp; all_goals with_reducible rfl)
                  try simp only [Act.put, List.setIfInBounds_toArray, List.set_cons_zero, List.set_cons_succ]
                  refine' wpAnyH_take (i := 8) ?hi8 (by kernel_rfl) (by kernel_rfl) (by kernel_rfl) ?hQ8 (Or.inl ⟨?hw8, ?hy8⟩) (by assumption) ?_
                  case hi8 => (simp only [List.getElem?_toArray, List.getElem?_cons_succ, List.getElem?_cons_zero]; rfl)
                  case hQ8 => exact fun _ _ _ h => h
                  case hw8 => rfl
                  case hy8 => (intro w' hSw; (try dsimp only at hSw); go_simp; all_goals with_reducible rfl)
                  try simp only [Act.put, List.setIfInBounds_toArray, List.set_cons_zero, List.set_cons_succ]
                  refine wpAnyH_ready (rs := [9]) (by kernel_rfl) (by simp) ?_
                  refine AllReadyH.cons rfl (fun K hK => ?_) AllReadyH.nil
                  go_simp
                  (go_at_call 65; refine (make_any x.lines y.lines n _ _ _ (HLX.out.never (And.left (by assumption))) (HLY.out.never (And.left (by assumption))) (by unfold I64; omega)).mono ?_; rintro e wq ⟨rq, rfl, hcq, hrq⟩; have hS2 := two_keep (by assumption) hcq)
                  try go_wp2_with fail
                  refine hK.out _ _ ?_ (fun hH => ?_)
                  · assumption
                  clear hK K
                  try simp only [Act.put, List.setIfInBounds_toArray, List.set_cons_zero, List.set_cons_succ]
                  rw [HMK.out.1, errV_zero]
                  rw [HMK.out.2] at hrq
                  obtain ⟨qa, qc, rfl, _, _, _⟩ := rdv_slice hrq
                  refine' wpAnyH_take (i := 10) ?hi10 (by kernel_rfl) (by kernel_rfl) (by kernel_rfl) ?hQ10 (Or.inl ⟨?hw10, ?hy10⟩) (by assumption) ?_
                  case hi10 => (simp only [List.getElem?_toArray, List.getElem?_cons_succ, List.getElem?_cons_zero]; rfl)
                  case hQ10 => exact fun _ _ _ h => h
                  case hw10 => rfl
                  case hy10 => (intro w' hSw; (try dsimp only at hSw); go_simp; all_goals with_reducible rfl)
                  try simp only [Act.put, List.setIfInBounds_toArray, List.set_cons_zero, List.set_cons_succ]
                  refine' wpAnyH_take (i := 11) ?hi11 (by kernel_rfl) (by kernel_rfl) (by kernel_rfl) ?hQ11 (Or.inl ⟨?hw11, ?hy11⟩) (by assumption) ?_
                  case hi11 => (simp only [List.getElem?_toArray, List.getElem?_cons_succ, List.getElem?_cons_zero]; rfl)
                  case hQ11 => exact fun _ _ _ h => h
                  case hw11 => rfl
                  case hy11 => (intro w' hSw; (try dsimp only at hSw); go_simp; all_goals with_reducible rfl)
                  try simp only [Act.put, List.setIfInBounds_toArray, List.set_cons_zero, List.set_cons_succ]
                  refine' wpAnyH_take (i := 12) ?hi12 (by kernel_rfl) (by kernel_rfl) (by kernel_rfl) ?hQ12 (Or.inl ⟨?hw12, ?hy12⟩) (by assumption) ?_
                  case hi12 => (simp only [List.getElem?_toArray, List.getElem?_cons_succ, List.getElem?_cons_zero]; rfl)
                  case hQ12 => exact fun _ _ _ h => h
                  case hw12 => rfl
                  case hy12 => (intro w' hSw; (try dsimp only at hSw); go_simp; all_goals with_reducible rfl)
                  try simp only [Act.put, List.setIfInBounds_toArray, List.set_cons_zero, List.set_cons_succ]
                  refine' wpAnyH_take (i := 13) ?hi13 (by kernel_rfl) (by kernel_rfl) (by kernel_rfl) ?hQ13 (Or.inl ⟨?hw13, ?hy13⟩) (by assumption) ?_
                  case hi13 => (simp only [List.getElem?_toArray, List.getElem?_cons_succ, List.getElem?_cons_zero]; rfl)
                  case hQ13 => exact fun _ _ _ h => h
                  case hw13 => rfl
                  case hy13 => (intro w' hSw; (try dsimp only at hSw); go_simp; all_goals with_reducible rfl)
                  try simp only [Act.put, List.setIfInBounds_toArray, List.set_cons_zero, List.set_cons_succ]
                  refine' wpAnyH_take (i := 14) ?hi14 (by kernel_rfl) (by kernel_rfl) (by kernel_rfl) ?hQ14 (Or.inl ⟨?hw14, ?hy14⟩) (by assumption) ?_
                  case hi14 => (simp only [List.getElem?_toArray, List.getElem?_cons_succ, List.getElem?_cons_zero]; rfl)
                  case hQ14 => exact fun _ _ _ h => h
                  case hw14 => rfl
                  case hy14 => (intro w' hSw; (try dsimp only at hSw); go_simp; all_goals with_reducible rfl)
                  try simp only [Act.put, List.setIfInBounds_toArray, List.set_cons_zero, List.set_cons_succ]
                  refine wpAnyH_done (by kernel_rfl) ?_ _
                  have hrr := hn.fresh hrq
                  have hn := (hn.never (Chg.refl Never _).drew).never hcq
                  clear hrq hcq c0 c1 d0 d1 hH hS2
                  have c0 := hn.chg.cellNever C0.out
                  by_cases hcut : cutOf (script x.lines y.lines) n = []
                  · have HCH := Lib.hid (chg_none (p := x.path) hcut)
                    rw [hcut] at hrr ⊢
                    clear hcut
                    go_wp2_with fail
                    go_quiet (fail)
                    go_wp2_with fail
                    go_roundw
                    case rel => exact ⟨A.drop 1, B.drop 1, L, hsa, hsb, hn.never ((Chg.refl Never _).drewN _), FA.out.drop, FB.out.drop, by omega, by rw [Hid, ← HL.out, HG.out, HCH.out]; rfl⟩
                    case measure => simp [sliceLen]; omega
                  · have HCH := Lib.hid (chg_some (p := x.path) hcut)
                    have hpos : 0 < (cutOf (script x.lines y.lines) n).length := List.length_pos_iff.2 hcut
                    clear hcut
                    have hyc : Dat.rd _ (fun k => Old wL.heap.size k ∨ _ = some k) _ (⟨1, x.path, cutOf (script x.lines y.lines) n⟩ : Change) := ⟨_, rfl, hpx, hrr⟩
                    go_wp2_with (at_builtin; refine wpList_push (by rfl) _ _ 51 (by rfl) elemOk_change (O := Old wL.heap.size) (l := L) (y := ⟨1, x.path, cutOf (script x.lines y.lines) n⟩) (by rfl) (by rfl) (by rfl) hn.own hyc hn.olds hLl ?_; intro v' w9 hown2 hc2 hk2; have hn2 := hn.step1 hown2 hc2; clear hown2 hc2 hk2 hn hyc; obtain ⟨oa2, on2, oc2, rfl⟩ := own_isSlice hn2.own)
                    go_quiet (fail)
                    go_wp2_with fail
                    go_roundw
                    case rel => exact ⟨A.drop 1, B.drop 1, L ++ [⟨1, x.path, cutOf (script x.lines y.lines) n⟩], hsa, hsb, hn2.never ((Chg.refl Never _).drewN _), FA.out.drop, FB.out.drop, by rw [List.length_append]; simp; omega, by rw [Hid, List.append_assoc, ← HL.out, HG.out, HCH.out]⟩
                    case measure => simp [sliceLen]; omega
def DiffPost (a b : List File) (n : Int) (w : World) (e : Ending) (w' : World) : Prop := ∃ r, e = .returned (.tuple #[r, errV (diffFault a b n)]) ∧ Chg Never w w' ∧ Rdv w' Never r (diffR a b n)
theorem diff_any (a b : List File) (n : Int) (va vb : Value) (w : World) (ha : Rdv w Never va a) (hb : Rdv w Never vb b) (hn : I64 n) (m : Int) (hm : w.cell? ⟨1, 0, none⟩ = some (.int .i64 m)) :
    Calls Tryz.prog 25 #[va, vb, .int .i64 n] w fun e w' => DiffPost a b n w e w' := by
  refine (diff_old a b n va vb w ha hb hn m hm).mono ?_
  rintro e w' ⟨r, he, hc, hr⟩
  exact ⟨r, he, hc, hr.sub (fun k _ hk => hk.elim)⟩
end Go.Proofs.YtjiaidchcldocaaGreatDoor
namespace Go.Proofs.YtjiaidchcldocaaGreatDoor

end Go.Proofs.YtjiaidchcldocaaGreatDoor
namespace Go.Proofs.YtjiaidchcldocaaGreatDoor

/-- neighbours -/
def nextsOf : List (List File) → List (List File × List File)
  | a :: b :: r => (a, b) :: nextsOf (b :: r)
  | _ => []
theorem nexts_len : ∀ t : List (List File), (nextsOf t).length = t.length - 1
  | [] => rfl
  | [_] => rfl
  | a :: b :: r => by rw [nextsOf, List.length_cons, nexts_len (b :: r)]; simp
theorem nexts_get : ∀ {t : List (List File)} {k : Nat} {a b : List File}, t[k]? = some a → t[k + 1]? = some b → (nextsOf t)[k]? = some (a, b)
  | [], _, _, _, h, _ => by simp at h
  | [_], 0, _, _, _, h => by simp at h
  | [_], k + 1, _, _, h, _ => by simp at h
  | x :: y :: r, 0, a, b, h, g => by
    simp at h g
    subst h; subst g; rfl
  | x :: y :: r, k + 1, a, b, h, g => by
    rw [nextsOf, List.getElem?_cons_succ]
    exact nexts_get (by simpa using h) (by simpa using g)
/-- the trees that are looked at -/
def foundF (n : Int) (t : List (List File)) : Int := firstOf (fun x => diffFault x.1 x.2 n) (nextsOf (t.take 6))
def foundL (n : Int) (t : List (List File)) : List (List Change) := (nextsOf (t.take 6)).map fun x => diffL n x.1 x.2
def foundR (n : Int) (t : List (List File)) : List (List Change) := if foundF n t = 0 then foundL n t else []
def lastOf (t : List (List File)) : List File := t.getD (if 5 < t.length - 1 then 5 else t.length - 1) []
theorem found_len (n : Int) (t : List (List File)) : (foundL n t).length = min t.length 6 - 1 := by
  unfold foundL
  rw [List.length_map, nexts_len, List.length_take, Nat.min_comm]
theorem found_get {n : Int} {t : List (List File)} {k : Nat} {a b : List File} (ha : t[k]? = some a) (hb : t[k + 1]? = some b) (hk : k + 1 < 6) : (nextsOf (t.take 6))[k]? = some (a, b) ∧ (foundL n t)[k]? = some (diffL n a b) := by
  have h := nexts_get (t := t.take 6) (k := k) (a := a) (b := b) (by rw [List.getElem?_take, if_pos (by omega)]; exact ha) (by rw [List.getElem?_take, if_pos (by omega)]; exact hb)
  exact ⟨h, by unfold foundL; rw [List.getElem?_map, h]; rfl⟩
theorem found_zero {n : Int} {t : List (List File)} (h : foundF n t = 0) {k : Nat} {a b : List File} (ha : t[k]? = some a) (hb : t[k + 1]? = some b) (hk : k + 1 < 6) : diffFault a b n = 0 := by
  unfold foundF at h
  rw [firstOf_zero] at h
  exact h (a, b) (List.mem_of_getElem? (found_get (n := n) ha hb hk).1)
/-- what a series run makes of a tree -/
def runGoS : List File → List (List Change) → List File × Int
  | t, [] => (t, 0)
  | t, c :: r => if (applyR t c).2.2 = 0 then runGoS (applyR t c).1 r else ([], (applyR t c).2.2)
end Go.Proofs.YtjiaidchcldocaaGreatDoor
namespace Go.Proofs.YtjiaidchcldocaaGreatDoor
open Go.RowKit

def doneR (there : Bool) (L : List ByteArray) (c : Change) : List ByteArray × Bool × Int :=
  if c.what = 2 ∧ there = true then ([], false, 6)
  else if c.what ≠ 2 ∧ there = false then ([], false, 4)
  else if (strict L c.hunks).2.2 ≠ 0 then ([], false, (strict L c.hunks).2.2)
  else if c.what = 3 ∧ (strict L c.hunks).1 ≠ [] then ([], false, 6)
  else ((strict L c.hunks).1, decide (c.what ≠ 3), 0)
theorem done_step (x : Option (List ByteArray)) (c : Change) : stepOf x c = (if (doneR x.isSome (x.getD []) c).2.1 = true then some (doneR x.isSome (x.getD []) c).1 else none, (doneR x.isSome (x.getD []) c).2.2) := by
  unfold stepOf doneR
  by_cases h1 : c.what = 2 ∧ x.isSome = true
  · rw [if_pos h1, if_pos h1]; rfl
  · rw [if_neg h1, if_neg h1]
    by_cases h2 : c.what ≠ 2 ∧ x.isSome = false
    · rw [if_pos h2, if_pos h2]; rfl
    · rw [if_neg h2, if_neg h2]
      by_cases h3 : (strict (x.getD []) c.hunks).2.2 ≠ 0
      · rw [if_pos h3, if_pos h3]; rfl
      · rw [if_neg h3, if_neg h3]
        by_cases h4 : c.what = 3
        · by_cases h5 : (strict (x.getD []) c.hunks).1 = []
          · simp [h4, h5]
          · simp [h4, h5]
        · simp [h4]
theorem done_clash {there : Bool} {L : List ByteArray} {c : Change} (h : c.what = 2 ∧ there = true) : doneR there L c = ([], false, 6) := if_pos h
theorem done_none {there : Bool} {L : List ByteArray} {c : Change} (h : c.what ≠ 2 ∧ there = false) : doneR there L c = ([], false, 4) := by unfold doneR; rw [if_neg (fun g => h.1 g.1), if_pos h]
theorem done_bad {there : Bool} {L : List ByteArray} {c : Change} (h1 : ¬ (c.what = 2 ∧ there = true)) (h2 : ¬ (c.what ≠ 2 ∧ there = false)) (h : (strict L c.hunks).2.2 ≠ 0) : doneR there L c = ([], false, (strict L c.hunks).2.2) := by unfold doneR; rw [if_neg h1, if_neg h2, if_pos h]
theorem done_left {there : Bool} {L : List ByteArray} {c : Change} (h1 : ¬ (c.what = 2 ∧ there = true)) (h2 : ¬ (c.what ≠ 2 ∧ there = false)) (h : (strict L c.hunks).2.2 = 0) (g : c.what = 3 ∧ (strict L c.hunks).1 ≠ []) : doneR there L c = ([], false, 6) := by unfold doneR; rw [if_neg h1, if_neg h2, if_neg (by rw [h]; decide), if_pos g]
theorem done_good {there : Bool} {L : List ByteArray} {c : Change} (h1 : ¬ (c.what = 2 ∧ there = true)) (h2 : ¬ (c.what ≠ 2 ∧ there = false)) (h : (strict L c.hunks).2.2 = 0) (g : ¬ (c.what = 3 ∧ (strict L c.hunks).1 ≠ [])) : doneR there L c = ((strict L c.hunks).1, decide (c.what ≠ 3), 0) := by unfold doneR; rw [if_neg h1, if_neg h2, if_neg (by rw [h]; decide), if_neg g]
def DonePost (there : Bool) (L : List ByteArray) (c : Change) (w : World) (e : Ending) (w' : World) : Prop := ∃ r, e = .returned (.tuple #[r, .bool (doneR there L c).2.1, errV (doneR there L c).2.2]) ∧ Chg Never w w' ∧ Rdv w' (Old w.heap.size) r (doneR there L c).1
theorem donePost_bad {there : Bool} {L : List ByteArray} {c : Change} {w w' : World} {k : Int} (h : doneR there L c = ([], false, k)) (hc : Chg Never w w') : DonePost there L c w (.returned (.tuple #[.slice none 0 0, .bool false, errV k])) w' :=
  ⟨_, by rw [h], hc, by rw [h]; exact rdv_nil _ _⟩
theorem donePost_ok {there b : Bool} {L R : List ByteArray} {c : Change} {w w' : World} {r : Value} (h : doneR there L c = (R, b, 0)) (hc : Chg Never w w') (hr : Rdv w' (Old w.heap.size) r R) : DonePost there L c w (.returned (.tuple #[r, .bool b, .nilIface])) w' :=
  ⟨_, by rw [h]; rfl, hc, by rw [h]; exact hr⟩
set_option maxHeartbeats 2000000 in
set_option maxRecDepth 100000 in
theorem done_go (there : Bool) (L : List ByteArray) (wh : Int) (pa : ByteArray) (hs : List Hunk) (lv hv : Value) (w : World) (hL : Rdv w Never lv L) (hh : Rdv w Never hv hs) :
    Calls Tryz.prog 77 #[lv, .bool there, .agg #[.int .i64 wh, .string pa, hv]] w fun e w' => DonePost there L ⟨wh, pa, hs⟩ w e w' := by
  obtain ⟨a, cap, rfl, h1, h2, _⟩ := rdv_slice hh
  obtain ⟨la, lcap, rfl, _, _, _⟩ := rdv_slice hL
  by_cases k2 : wh = 2
  · subst k2
    obtain ⟨hA, b0, b1, b2⟩ := box1_change w 85 2 pa (.slice a hs.length cap) _ rfl
    cases there with
    | true =>
      have HG := Lib.hid (donePost_bad (w := w) (done_clash (L := L) (c := ⟨2, pa, hs⟩) ⟨rfl, rfl⟩) hA)
      go_enter Tryz.func77, Tryz.ntmps77
      go_wp2_with fail
      go_ret3
      have E := HG.out
      rw [errV_pos (by decide)] at E
      exact E
    | false =>
      have n1 : ¬ ((⟨2, pa, hs⟩ : Change).what = 2 ∧ false = true) := fun h => by cases h.2
      have n2 : ¬ ((⟨2, pa, hs⟩ : Change).what ≠ 2 ∧ false = false) := fun h => h.1 rfl
      by_cases z : (strict L hs).2.2 = 0
      · have HG : Hid (doneR false L ⟨2, pa, hs⟩ = ((strict L hs).1, true, 0)) := done_good n1 n2 z (fun h => absurd (show (2 : Int) = 3 from h.1) (by decide))
        have ZS := Lib.hid z
        clear z n1 n2
        go_enter Tryz.func77, Tryz.ntmps77
        go_wp2_with fail
        generalize w.alloc (.cells #[.int .i64 2, .string pa, .slice a hs.length cap] 85) = wA at hA b0 b1 b2 ⊢
        refine (strict_any L hs _ _ _ (hL.never hA) (hh.never hA)).mono ?_
        rintro e w2 ⟨r, rfl, hc2, hr⟩
        have hw := hA.trans hc2
        have b0 := hc2.cellNever b0
        have hr := hr.sub (O' := Old w.heap.size) (fun k _ h => Nat.lt_of_lt_of_le h hA.size)
        clear hc2 b1 b2
        skip
        obtain ⟨ra, rc, rfl, _, _, _⟩ := rdv_slice hr
        rw [ZS.out, errV_zero]
        go_wp2_with fail
        go_quiet (fail)
        go_wp2_with fail
        go_ret3
        exact donePost_ok HG.out (hw.drewN _) (hr.never ((Chg.refl Never _).drewN _))
      · have HG := Lib.hid (done_bad n1 n2 z)
        have ZS := Lib.hid z
        clear z n1 n2
        go_enter Tryz.func77, Tryz.ntmps77
        go_wp2_with fail
        generalize w.alloc (.cells #[.int .i64 2, .string pa, .slice a hs.length cap] 85) = wA at hA b0 b1 b2 ⊢
        refine (strict_any L hs _ _ _ (hL.never hA) (hh.never hA)).mono ?_
        rintro e w2 ⟨r, rfl, hc2, hr⟩
        have hw := hA.trans hc2
        have b0 := hc2.cellNever b0
        have hr := hr.sub (O' := Old w.heap.size) (fun k _ h => Nat.lt_of_lt_of_le h hA.size)
        clear hc2 b1 b2
        skip
        obtain ⟨ra, rc, rfl, _, _, _⟩ := rdv_slice hr
        rw [errV_pos ZS.out]
        clear b0
        go_wp2_with fail
        go_ret3
        have E := donePost_bad HG.out hw
        rw [errV_pos ZS.out] at E
        exact E
  · have t2 : (wh == 2) = false := by simp [k2]
    have t2' : (wh != 2) = true := by simp [k2]
    obtain ⟨hA, b0, b1, b2⟩ := box1_change w 85 wh pa (.slice a hs.length cap) _ rfl
    cases there with
    | false =>
      have HG := Lib.hid (donePost_bad (w := w) (done_none (L := L) (c := ⟨wh, pa, hs⟩) ⟨k2, rfl⟩) hA)
      clear k2
      go_enter Tryz.func77, Tryz.ntmps77
      go_wp2_with fail
      go_ret3
      have E := HG.out
      rw [errV_pos (by decide)] at E
      exact E
    | true =>
      have n1 : ¬ ((⟨wh, pa, hs⟩ : Change).what = 2 ∧ true = true) := fun h => k2 h.1
      have n2 : ¬ ((⟨wh, pa, hs⟩ : Change).what ≠ 2 ∧ true = false) := fun h => by cases h.2
      by_cases z : (strict L hs).2.2 = 0
      · have ZS := Lib.hid z
        by_cases k3 : wh = 3
        · subst k3
          by_cases h0 : (strict L hs).1 = []
          · have HG : Hid (doneR true L ⟨3, pa, hs⟩ = ([], false, 0)) := (done_good n1 n2 z (fun h => h.2 h0)).trans (by rw [show (strict L (⟨3, pa, hs⟩ : Change).hunks).1 = [] from h0]; rfl)
            have H0 := Lib.hid h0
            clear z n1 n2 k2 h0 t2 t2'
            go_enter Tryz.func77, Tryz.ntmps77
            go_wp2_with fail
            generalize w.alloc (.cells #[.int .i64 3, .string pa, .slice a hs.length cap] 85) = wA at hA b0 b1 b2 ⊢
            refine (strict_any L hs _ _ _ (hL.never hA) (hh.never hA)).mono ?_
            rintro e w2 ⟨r, rfl, hc2, hr⟩
            have hw := hA.trans hc2
            have b0 := hc2.cellNever b0
            have hr := hr.sub (O' := Old w.heap.size) (fun k _ h => Nat.lt_of_lt_of_le h hA.size)
            clear hc2 b1 b2
            rw [H0.out] at hr
            obtain ⟨ra, rc, rfl, _, _, _⟩ := rdv_slice hr
            rw [ZS.out, errV_zero]
            go_wp2_with fail
            go_quiet (fail)
            go_wp2_with fail
            go_ret3
            exact donePost_ok HG.out (hw.drewN _) (hr.never ((Chg.refl Never _).drewN _))
          · have HG := Lib.hid (done_left n1 n2 z ⟨rfl, h0⟩)
            have hpos : 0 < (strict L hs).1.length := List.length_pos_iff.2 h0
            clear z n1 n2 k2 h0 t2 t2'
            go_enter Tryz.func77, Tryz.ntmps77
            go_wp2_with fail
            generalize w.alloc (.cells #[.int .i64 3, .string pa, .slice a hs.length cap] 85) = wA at hA b0 b1 b2 ⊢
            refine (strict_any L hs _ _ _ (hL.never hA) (hh.never hA)).mono ?_
            rintro e w2 ⟨r, rfl, hc2, hr⟩
            have hw := hA.trans hc2
            have b0 := hc2.cellNever b0
            have hr := hr.sub (O' := Old w.heap.size) (fun k _ h => Nat.lt_of_lt_of_le h hA.size)
            clear hc2 b1 b2
            skip
            obtain ⟨ra, rc, rfl, _, _, _⟩ := rdv_slice hr
            rw [ZS.out, errV_zero]
            go_wp2_with fail
            all_goals first | (go_ret3; have E := donePost_bad HG.out hw; rw [errV_pos (by decide)] at E; exact E) | skip
        · have t3 : (wh == 3) = false := by simp [k3]
          have HG : Hid (doneR true L ⟨wh, pa, hs⟩ = ((strict L hs).1, wh != 3, 0)) := (done_good n1 n2 z (fun h => k3 h.1)).trans (by rw [show decide ((⟨wh, pa, hs⟩ : Change).what ≠ 3) = true from decide_eq_true k3, show (wh != 3) = true by simp [k3]])
          clear z n1 n2 k2 k3
          go_enter Tryz.func77, Tryz.ntmps77
          go_wp2_with fail
          generalize w.alloc (.cells #[.int .i64 wh, .string pa, .slice a hs.length cap] 85) = wA at hA b0 b1 b2 ⊢
          refine (strict_any L hs _ _ _ (hL.never hA) (hh.never hA)).mono ?_
          rintro e w2 ⟨r, rfl, hc2, hr⟩
          have hw := hA.trans hc2
          have b0 := hc2.cellNever b0
          have hr := hr.sub (O' := Old w.heap.size) (fun k _ h => Nat.lt_of_lt_of_le h hA.size)
          clear hc2 b1 b2
          skip
          obtain ⟨ra, rc, rfl, _, _, _⟩ := rdv_slice hr
          rw [ZS.out, errV_zero]
          go_wp2_with fail
          go_quiet (fail)
          go_wp2_with fail
          go_ret3
          exact donePost_ok HG.out (hw.drewN _) (hr.never ((Chg.refl Never _).drewN _))
      · clear k2
        have HG := Lib.hid (done_bad n1 n2 z)
        have ZS := Lib.hid z
        clear z n1 n2
        go_enter Tryz.func77, Tryz.ntmps77
        go_wp2_with fail
        generalize w.alloc (.cells #[.int .i64 wh, .string pa, .slice a hs.length cap] 85) = wA at hA b0 b1 b2 ⊢
        refine (strict_any L hs _ _ _ (hL.never hA) (hh.never hA)).mono ?_
        rintro e w2 ⟨r, rfl, hc2, hr⟩
        have hw := hA.trans hc2
        have b0 := hc2.cellNever b0
        have hr := hr.sub (O' := Old w.heap.size) (fun k _ h => Nat.lt_of_lt_of_le h hA.size)
        clear hc2 b1 b2
        skip
        obtain ⟨ra, rc, rfl, _, _, _⟩ := rdv_slice hr
        rw [errV_pos ZS.out]
        clear b0
        go_wp2_with fail
        go_ret3
        have E := donePost_bad HG.out hw
        rw [errV_pos ZS.out] at E
        exact E
theorem done_any (there : Bool) (L : List ByteArray) (c : Change) (lv hv : Value) (w : World) (hL : Rdv w Never lv L) (hh : Rdv w Never hv c.hunks) :
    Calls Tryz.prog 77 #[lv, .bool there, .agg #[.int .i64 c.what, .string c.path, hv]] w fun e w' => DonePost there L c w e w' := done_go there L c.what c.path c.hunks lv hv w hL hh
end Go.Proofs.YtjiaidchcldocaaGreatDoor
namespace Go.Proofs.YtjiaidchcldocaaGreatDoor
open Go.RowKit

set_option maxRecDepth 100000 in
theorem find_cmp (x : File) (p : ByteArray) (lv : Value) (w : World) :
    Calls Tryz.prog 124 #[.agg #[.string x.path, lv], .string p] w fun e w' => e = .returned (.int .i64 (Lib.compareBytes x.path.data.toList p.data.toList)) ∧ Chg Never w w' := by
  go_enter Tryz.func124, Tryz.ntmps124
  go_wp2_with fail
  refine (Tryz.strings_Compare x.path p _).mono ?_
  rintro e w1 ⟨rfl, hw1⟩
  rw [hw1]
  go_wp2_with fail
  go_ret
  exact ⟨rfl, (Chg.refl _ _).alloc _⟩
theorem cmp_less {a b : ByteArray} : (Lib.compareBytes a.data.toList b.data.toList < 0 ↔ less a b = true) ∧ (Lib.compareBytes a.data.toList b.data.toList = 0 ↔ a = b) := by
  obtain ⟨h1, h2⟩ := compare_bl a.data.toList b.data.toList
  refine ⟨?_, ?_⟩
  · rw [h1]; unfold less; rw [Lib.toList_data, Lib.toList_data]
  · rw [h2]
    exact ⟨fun h => ByteArray.ext (Array.toList_inj.1 h), fun h => by rw [h]⟩

/-- what a binary search has told of the places from a to b -/
structure BSt (t : List File) (p : ByteArray) (a b : Nat) : Prop where
  le : a ≤ b
  top : b ≤ t.length
  lo : ∀ q f, q < a → t[q]? = some f → less f.path p = true
  hi : ∀ q f, b ≤ q → t[q]? = some f → less f.path p = false
theorem bst_start (t : List File) (p : ByteArray) : BSt t p 0 t.length :=
  ⟨Nat.zero_le _, Nat.le_refl _, fun q f h => absurd h (Nat.not_lt_zero q), fun q f h hf => by have := (List.getElem?_eq_some_iff.1 hf).1; omega⟩
theorem BSt.up {t : List File} {p : ByteArray} {a b c : Nat} {x : File} (h : BSt t p a b) (hs : Sorted t) (h1 : a ≤ c) (h2 : c < b) (hx : t[c]? = some x) (hl : less x.path p = true) : BSt t p (c + 1) b :=
  ⟨by omega, h.top, fun q f hq hf => by
    by_cases e : q = c
    · subst e; rw [hx] at hf; injection hf with hf; rw [← hf]; exact hl
    · exact less_trans (sorted_mono hs (show q < c by omega) hf hx) hl, h.hi⟩
theorem BSt.down {t : List File} {p : ByteArray} {a b c : Nat} {x : File} (h : BSt t p a b) (hs : Sorted t) (h1 : a ≤ c) (h2 : c < b) (hx : t[c]? = some x) (hl : less x.path p = false) : BSt t p a c :=
  ⟨h1, by have := h.top; omega, h.lo, fun q f hq hf => by
    by_cases e : q = c
    · subst e; rw [hx] at hf; injection hf with hf; rw [← hf]; exact hl
    · have hm := sorted_mono hs (show c < q by omega) hx hf
      cases hb : less f.path p with
      | false => rfl
      | true => have := less_trans hm hb; rw [hl] at this; cases this⟩
theorem BSt.pos {t : List File} {p : ByteArray} {a : Nat} (h : BSt t p a a) : posOf t p = a := pos_unique h.lo (fun f hf => h.hi a f (Nat.le_refl _) hf) h.top

set_option maxHeartbeats 2000000 in
set_option maxRecDepth 100000 in
theorem bs_any (t : List File) (p : ByteArray) (v : Value) (w : World) (h : Rdv w Never v t) (hs : Sorted t) (hl : t.length ≤ 1000000) :
    Calls Tryz.prog 123 #[v, .string p, .func (.func 124) #[] #[]] w fun e w' => e = .returned (.tuple #[.int .i64 (posOf t p), .bool (isAt t p)]) ∧ Chg Never w w' := by
  have HS := Lib.hid hs
  clear hs
  obtain ⟨a, cap, rfl, h1, h2, h3⟩ := rdv_slice h
  unfold maxLen at h2
  go_enter Tryz.func123, Tryz.ntmps123
  go_wp2_with fail
  go_loopw [9, 10] (fun i j wr => ∃ x y : Nat, i = .int .i64 x ∧ j = .int .i64 y ∧ Chg Never w wr ∧ BSt t p x y) (fun i j _ => (intOf j).toNat - (intOf i).toNat)
  case atStart => exact ⟨0, t.length, rfl, rfl, Chg.refl _ _, bst_start t p⟩
  case round =>
    obtain ⟨x, y, rfl, rfl, hc, hB⟩ := hrel
    have hle := hB.le
    have htop := hB.top
    by_cases hlt : x < y
    · obtain ⟨z, hz⟩ : ∃ z, (x + y) / 2 = z := ⟨_, rfl⟩
      have zI : ((x : Int) + y) / 2 = z := by omega
      have hz1 : x ≤ z := by omega
      have hz2 : z < y := by omega
      obtain ⟨f, hf⟩ : ∃ f, t[z]? = some f := ⟨t[z]'(by omega), by simp [show z < t.length by omega]⟩
      obtain ⟨b, off, lv, rfl, _, _, c0, c1, _, _⟩ := elems_file h3 hf
      have c0 := hc.cellNever c0
      have c1 := hc.cellNever c1
      have HX := Lib.hid hf
      clear hf
      cases hq : less f.path p with
      | true =>
        have t1 : decide (Lib.compareBytes f.path.data.toList p.data.toList < 0) = true := decide_eq_true (cmp_less.1.2 hq)
        go_wp2_with fail
        refine (find_cmp f p _ _).mono ?_
        rintro e w2 ⟨rfl, hc2⟩
        have hc2 := hc.trans hc2
        clear c0 c1
        go_wp2_with fail
        go_roundw
        case rel => exact ⟨z + 1, y, by go_num, rfl, hc2, hB.up HS.out hz1 hz2 HX.out hq⟩
        case measure => simp [intOf] <;> omega
      | false =>
        have t1 : decide (Lib.compareBytes f.path.data.toList p.data.toList < 0) = false := decide_eq_false (fun hh => by rw [cmp_less.1.1 hh] at hq; cases hq)
        go_wp2_with fail
        refine (find_cmp f p _ _).mono ?_
        rintro e w2 ⟨rfl, hc2⟩
        have hc2 := hc.trans hc2
        clear c0 c1
        go_wp2_with fail
        go_roundw
        case rel => exact ⟨x, z, rfl, rfl, hc2, hB.down HS.out hz1 hz2 HX.out hq⟩
        case measure => simp [intOf] <;> omega
    · obtain rfl : x = y := by omega
      have HP := Lib.hid hB.pos
      by_cases hxt : x < t.length
      · obtain ⟨f, hf⟩ : ∃ f, t[x]? = some f := ⟨t[x], by simp [hxt]⟩
        obtain ⟨b, off, lv, rfl, _, _, c0, c1, _, _⟩ := elems_file h3 hf
        have c0 := hc.cellNever c0
        have c1 := hc.cellNever c1
        by_cases e : f.path = p
        · have HI : Hid (isAt t p = true) := by unfold Hid isAt; rw [HP.out, hf]; simp [e]
          have t1 : (Lib.compareBytes f.path.data.toList p.data.toList == 0) = true := beq_iff_eq.2 (cmp_less.2.2 e)
          clear hf e
          go_wp2_with fail
          refine (find_cmp f p _ _).mono ?_
          rintro e w2 ⟨rfl, hc2⟩
          have hc2 := hc.trans hc2
          clear c0 c1
          go_wp2_with fail
          go_ret2
          exact ⟨by rw [HP.out, HI.out]; rfl, hc2⟩
        · have HI : Hid (isAt t p = false) := by unfold Hid isAt; rw [HP.out, hf]; simp [e]
          have t1 : (Lib.compareBytes f.path.data.toList p.data.toList == 0) = false := beq_eq_false_iff_ne.2 (fun hh => e (cmp_less.2.1 hh))
          clear hf e
          go_wp2_with fail
          refine (find_cmp f p _ _).mono ?_
          rintro e w2 ⟨rfl, hc2⟩
          have hc2 := hc.trans hc2
          clear c0 c1
          go_wp2_with fail
          go_ret2
          exact ⟨by rw [HP.out, HI.out]; rfl, hc2⟩
      · have HI : Hid (isAt t p = false) := by unfold Hid isAt; rw [HP.out, List.getElem?_eq_none (by omega)]; rfl
        go_wp2_with fail
        go_ret2
        exact ⟨by rw [HP.out, HI.out]; rfl, hc⟩

set_option maxHeartbeats 2000000 in
set_option maxRecDepth 100000 in
theorem treefind_any (t : List File) (p : ByteArray) (v : Value) (w : World) (h : Rdv w Never v t) (hs : Sorted t) (hl : t.length ≤ 1000000) :
    Calls Tryz.prog 76 #[v, .string p] w fun e w' => e = .returned (.tuple #[.int .i64 (posOf t p), .bool (isAt t p)]) ∧ Chg Never w w' := by
  obtain ⟨a, cap, rfl, h1, h2, h3⟩ := rdv_slice h
  unfold maxLen at h2
  go_enter Tryz.func76, Tryz.ntmps76
  go_wp2_with fail
  refine (bs_any t p _ _ h hs hl).mono ?_
  rintro e w1 ⟨rfl, hc⟩
  go_wp2_with fail
  go_ret2
  exact ⟨rfl, hc⟩
end Go.Proofs.YtjiaidchcldocaaGreatDoor
