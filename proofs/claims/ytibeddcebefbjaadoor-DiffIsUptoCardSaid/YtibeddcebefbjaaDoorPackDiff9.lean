/-
  DiffIs holds, tied to the program's text: for all arguments of bulk at most 1048576 the law answers true, and its arguments read as before.
-/
import Derived.Test.YtibeddcebefbjaaDoorPackDiff5
import Derived.Test.YtibeddcebefbjaaDoorPackDiff6
import Derived.Test.YtibeddcebefbjaaDoorPackDiff7
import Derived.Deep.RegionHeld3
import Derived.BigQuiet
import Derived.Test.YtibeddcebefbjaaDoorPackDiff8
import Derived.Test.YtibeddcebefbjaaDoorPackDiff1
namespace Go.Proofs.YtibeddcebefbjaaDoor
open Go.RowKit

def diffFault (a b : List File) (n : Int) : Int := if (treeFault a).2 ≠ 0 then (treeFault a).2 else if (treeFault b).2 ≠ 0 then (treeFault b).2 else if n < 0 ∨ 1000 < n then 1 else 0
def diffR (a b : List File) (n : Int) : List Change := if diffFault a b n = 0 then diffL n a b else []
theorem diffFault_a {a b : List File} {n : Int} (h : (treeFault a).2 ≠ 0) : diffFault a b n = (treeFault a).2 := if_pos h
theorem diffFault_b {a b : List File} {n : Int} (h : (treeFault a).2 = 0) (g : (treeFault b).2 ≠ 0) : diffFault a b n = (treeFault b).2 := by unfold diffFault; rw [if_neg (by rw [h]; decide), if_pos g]
theorem diffFault_n {a b : List File} {n : Int} (h : (treeFault a).2 = 0) (g : (treeFault b).2 = 0) (hn : n < 0 ∨ 1000 < n) : diffFault a b n = 1 := by unfold diffFault; rw [if_neg (by rw [h]; decide), if_neg (by rw [g]; decide), if_pos hn]
theorem diffFault_0 {a b : List File} {n : Int} (h : (treeFault a).2 = 0) (g : (treeFault b).2 = 0) (n0 : 0 ≤ n) (n1 : n ≤ 1000) : diffFault a b n = 0 := by unfold diffFault; rw [if_neg (by rw [h]; decide), if_neg (by rw [g]; decide), if_neg (by omega)]
theorem diffR_bad {a b : List File} {n : Int} (h : diffFault a b n ≠ 0) : diffR a b n = [] := if_neg h
theorem diffR_ok {a b : List File} {n : Int} (h : diffFault a b n = 0) : diffR a b n = diffL n a b := if_pos h
def sliceLen : Value → Nat
  | .slice _ n _ => n
  | _ => 0
theorem cons_of_get {α : Type} {l : List α} {x : α} (h : l[0]? = some x) : l = x :: l.drop 1 := by
  cases l with
  | nil => cases h
  | cons y r => simp at h; subst h; rfl
theorem diffG_take {n : Int} {x : File} {a b : List File} (hx : a[0]? = some x) (h : b = [] ∨ ∃ y, b[0]? = some y ∧ less x.path y.path = true) : diffL n a b = [⟨3, x.path, wholeR x.lines 45⟩] ++ diffL n (a.drop 1) b := by
  have e := cons_of_get hx
  generalize a.drop 1 = r at e ⊢
  subst e
  exact diffL_take (h.imp_right fun ⟨y, h1, h2⟩ => ⟨y, _, cons_of_get h1, h2⟩)
theorem diffG_put {n : Int} {y : File} {a b : List File} (hy : b[0]? = some y) (h : a = [] ∨ ∃ x, a[0]? = some x ∧ ¬ less x.path y.path = true ∧ less y.path x.path = true) : diffL n a b = [⟨2, y.path, wholeR y.lines 43⟩] ++ diffL n a (b.drop 1) := by
  have e := cons_of_get hy
  generalize b.drop 1 = r at e ⊢
  subst e
  exact diffL_put (h.imp_right fun ⟨x, h1, h2⟩ => ⟨x, _, cons_of_get h1, h2⟩)
theorem diffG_both {n : Int} {x y : File} {a b : List File} (hx : a[0]? = some x) (hy : b[0]? = some y) (h : ¬ less x.path y.path = true) (g : ¬ less y.path x.path = true) : diffL n a b = chg n x.path (some x.lines) (some y.lines) ++ diffL n (a.drop 1) (b.drop 1) := by
  have e := cons_of_get hx
  have e2 := cons_of_get hy
  generalize a.drop 1 = r at e ⊢
  generalize b.drop 1 = s at e2 ⊢
  subst e
  subst e2
  exact diffL_both h g
/-- the files of a tree are valid -/
def AllFine (a : List File) : Prop := ∀ f ∈ a, fileFault f = 0
theorem AllFine.get {a : List File} (h : AllFine a) {x : File} (hx : a[0]? = some x) : linesFault x.lines = 0 := fileFault_lines (h x (List.mem_of_getElem? hx))
theorem AllFine.drop {a : List File} (h : AllFine a) : AllFine (a.drop 1) := fun f hf => h f (List.mem_of_mem_drop hf)

def DiffPost (a b : List File) (n : Int) (w : World) (e : Ending) (w' : World) : Prop := ∃ r, e = .returned (.tuple #[r, errV (diffFault a b n)]) ∧ Chg Never w w' ∧ Rdv w' Never r (diffR a b n)
theorem diffPost_bad {a b : List File} {n k : Int} {w w' : World} (h : diffFault a b n = k) (hk : k ≠ 0) (hc : Chg Never w w') : DiffPost a b n w (.returned (.tuple #[.slice none 0 0, errV k])) w' :=
  ⟨_, by rw [h], hc, by rw [diffR_bad (by rw [h]; exact hk)]; exact rdv_nil _ _⟩
theorem diffPost_ok {a b : List File} {n : Int} {w w' : World} {r : Value} (h : diffFault a b n = 0) (hc : Chg Never w w') (hr : Rdv w' Never r (diffL n a b)) : DiffPost a b n w (.returned (.tuple #[r, .nilIface])) w' :=
  ⟨r, by rw [h, errV_zero], hc, by rw [diffR_ok h]; exact hr⟩
set_option maxHeartbeats 4000000 in
set_option maxRecDepth 100000 in
theorem diff_any (a b : List File) (n : Int) (va vb : Value) (w : World) (ha : Rdv w Never va a) (hb : Rdv w Never vb b) (hn : I64 n) (m : Int) (hm : w.cell? ⟨1, 0, none⟩ = some (.int .i64 m)) :
    Calls Tryd.prog 23 #[va, vb, .int .i64 n] w fun e w' => DiffPost a b n w e w' := by
  obtain ⟨a0, acap0, rfl, _, _, _⟩ := rdv_slice ha
  obtain ⟨b0, bcap0, rfl, _, _, _⟩ := rdv_slice hb
  have x0 : ∀ wx, (Instr.index 94 (.agg #[.slice a0 a.length acap0, .slice b0 b.length bcap0]) (.int .i64 0)).run Tryd.prog wx = .ok (.slice a0 a.length acap0) wx := fun _ => by kernel_rfl
  have x1 : ∀ wx, (Instr.index 94 (.agg #[.slice a0 a.length acap0, .slice b0 b.length bcap0]) (.int .i64 1)).run Tryd.prog wx = .ok (.slice b0 b.length bcap0) wx := fun _ => by kernel_rfl
  unfold I64 at hn
  go_enter Tryd.func23, Tryd.ntmps23
  go_wp2_with fail
  go_loopw [18] (fun i wL => ∃ k : Nat, k ≤ 2 ∧ i = .int .i64 k ∧ Chg Never w wL ∧ Hid ((1 ≤ k → (treeFault a).2 = 0) ∧ (2 ≤ k → (treeFault b).2 = 0))) (fun i _ => 2 - (intOf i).toNat)
  case atStart => exact ⟨0, by decide, rfl, Chg.refl _ _, by omega, by omega⟩
  case round =>
    rename World => wL
    obtain ⟨k, hk, rfl, hc, hF⟩ := hrel
    rcases Nat.lt_or_ge k 2 with hlt | hge
    · rcases Nat.eq_zero_or_pos k with rfl | hpos
      · go_wp2_with fail
        refine (tree_check_any a _ _ (ha.never hc) m (hc.cellNever hm)).mono ?_
        rintro e w2 ⟨rfl, hc2⟩
        have hc := hc.trans hc2
        clear hc2
        by_cases z : (treeFault a).2 = 0
        · have Z := Lib.hid z
          rw [z, errV_zero]
          clear z
          go_wp2_with fail
          go_roundw
          case rel => exact ⟨1, by decide, rfl, hc, fun _ => Z.out, by omega⟩
          case measure => simp [intOf]
        · rw [errV_pos z]
          have E := diffPost_bad (n := n) (w := w) (diffFault_a (b := b) (n := n) z) z hc
          rw [errV_pos z] at E
          clear z
          go_wp2_with fail
          go_ret2
          exact E
      · obtain rfl : k = 1 := by omega
        go_wp2_with fail
        refine (tree_check_any b _ _ (hb.never hc) m (hc.cellNever hm)).mono ?_
        rintro e w2 ⟨rfl, hc2⟩
        have hc := hc.trans hc2
        clear hc2
        by_cases z : (treeFault b).2 = 0
        · have Z := Lib.hid z
          rw [z, errV_zero]
          clear z
          go_wp2_with fail
          go_roundw
          case rel => exact ⟨2, by decide, rfl, hc, fun _ => hF.out.1 (by decide), fun _ => Z.out⟩
          case measure => simp [intOf]
        · rw [errV_pos z]
          have E := diffPost_bad (n := n) (w := w) (diffFault_b (n := n) (hF.out.1 (by decide)) z) z hc
          rw [errV_pos z] at E
          clear z
          go_wp2_with fail
          go_ret2
          exact E
    · obtain rfl : k = 2 := by omega
      have ta := hF.out.1 (by decide)
      have tb := hF.out.2 (by decide)
      clear hF x0 x1
      by_cases hr : n < 0 ∨ 1000 < n
      · have E := diffPost_bad (w := w) (diffFault_n ta tb hr) (by decide) hc
        clear ta tb
        rcases hr with hr | hr
        · go_wp2_with fail
          go_ret2
          exact E
        · have h0 : ¬ n < 0 := by omega
          go_wp2_with fail
          go_ret2
          exact E
      · have n0 : 0 ≤ n := by omega
        have n1 : n ≤ 1000 := by omega
        have EE : Hid (∀ (w' : World) (r : Value), Chg Never w w' → Rdv w' Never r (diffL n a b) → DiffPost a b n w (.returned (.tuple #[r, .nilIface])) w') := fun w' r h1 h2 => diffPost_ok (diffFault_0 ta tb n0 n1) h1 h2
        have FA := Lib.hid (show AllFine a from (treeFault_zero ta).2.1)
        have FB := Lib.hid (show AllFine b from (treeFault_zero tb).2.1)
        have la := (treeFault_zero ta).1
        have lb := (treeFault_zero tb).1
        have HA := Lib.hid (ha.never hc)
        have HB := Lib.hid (hb.never hc)
        clear ta tb hr ha hb
        have hn0 := ownN_nil (α := Change) 60 (Chg.refl Never wL)
        go_wp2_with fail
        go_loopw [0, 1, 12] (fun v u o wr => ∃ (A B : List File) (L : List Change), Rdv wL Never v A ∧ Rdv wL Never u B ∧ OwnN 60 wL wr o L ∧ Hid (AllFine A) ∧ Hid (AllFine B) ∧ A.length + B.length + L.length ≤ 16 ∧ Hid (L ++ diffL n A B = diffL n a b)) (fun v u _ _ => sliceLen v + sliceLen u)
        case atStart => exact ⟨a, b, [], HA.out, HB.out, hn0, FA, FB, by simp; omega, by unfold Hid; rw [List.nil_append]⟩
        case round =>
          clear hn0 la lb FA FB HA HB
          rename World => wr
          obtain ⟨A, B, L, hA, hB, hn, FA, FB, hlen, HL⟩ := hrel
          obtain ⟨oa, on, oc, rfl⟩ := own_isSlice hn.own
          obtain ⟨aa, acap, rfl, a1, a2, a3⟩ := rdv_slice hA
          obtain ⟨ba, bcap, rfl, b1, b2, b3⟩ := rdv_slice hB
          unfold maxLen at a2 b2
          have hLl : L.length ≤ 1000000000 := by omega
          rcases Nat.eq_zero_or_pos A.length with hA0 | hA0
          · obtain rfl : A = [] := List.eq_nil_of_length_eq_zero hA0
            clear a3
            rcases Nat.eq_zero_or_pos B.length with hB0 | hB0
            · obtain rfl : B = [] := List.eq_nil_of_length_eq_zero hB0
              have HLo := HL.out
              rw [diffL_nil, List.append_nil] at HLo
              have HLO := Lib.hid HLo
              clear HLo
              go_wp2_with fail
              go_ret2
              exact EE.out _ _ (hc.trans hn.chg) (by rw [← HLO.out]; exact hn.own.rdv.sub (fun _ _ h => h.elim))
            · obtain ⟨y, hy⟩ : ∃ y, B[0]? = some y := ⟨B[0], by simp [hB0]⟩
              obtain ⟨yb, yo, yv, rfl, _, _, d0, d1, hpy, hly⟩ := elems_file b3 hy
              simp only [Nat.zero_mul, Nat.add_zero] at d0 d1
              have HLY := Lib.hid hly
              have FY := Lib.hid (FB.out.get hy)
              have hyl := linesFault_len FY.out
              obtain ⟨ya, ycap, rfl, _, _, _⟩ := rdv_slice hly
              have D0 := Lib.hid d0
              have D1 := Lib.hid d1
              have d0 := hn.chg.cellNever d0
              have d1 := hn.chg.cellNever d1
              have HY := Lib.hid hy
              obtain ⟨sb, _, hrunB, _, hsb⟩ := slice_gen (P := Tryd.prog) (t := 34) (by kernel_rfl) size_file hB 1 B.length (by omega) (Nat.le_refl _)
              have hrunB := fun (wx : World) => hrunB 1 wx rfl rfl
              rw [List.take_of_length_le (Nat.le_of_eq List.length_drop)] at hsb
              have hdb : (B.drop 1).length = B.length - 1 := List.length_drop
              have q0 : ((B.length : Int) == 0) = false := beq_eq_false_iff_ne.2 (by omega)
              have q1 : decide ((B.length : Int) > 0) = true := by simp; omega
              clear hy hly
              have HG := Lib.hid (diffG_put (n := n) (a := []) HY.out (.inl rfl))
              clear b3
              go_wp2_with fail
              go_quiet (fail)
              generalize hqq : World.drewN wr _ = wr2
              have hn := hqq ▸ hn.never ((Chg.refl Never wr).drewN _)
              clear hqq
              try clear c0 c1
              try clear d0 d1
              try have c0 := hn.chg.cellNever C0.out
              try have c1 := hn.chg.cellNever C1.out
              try have d0 := hn.chg.cellNever D0.out
              try have d1 := hn.chg.cellNever D1.out
              go_wp2_with fail
              go_quiet (fail)
              generalize hqq : World.drewN wr2 _ = wr3
              have hn := hqq ▸ hn.never ((Chg.refl Never wr2).drewN _)
              clear hqq
              try clear c0 c1
              try clear d0 d1
              try have c0 := hn.chg.cellNever C0.out
              try have c1 := hn.chg.cellNever C1.out
              try have d0 := hn.chg.cellNever D0.out
              try have d1 := hn.chg.cellNever D1.out
              go_wp2_with fail
              refine wp_region_held_drew (S := fun w' => Chg Never wL w' ∧ w'.cell? ⟨yb, yo, none⟩ = some (.string y.path) ∧ w'.cell? ⟨yb, yo + 1, none⟩ = some (.slice ya y.lines.length ycap)) (by kernel_rfl) ⟨hn.chg.drew, hn.chg.cellNever D0.out, hn.chg.cellNever D1.out⟩ (fun hH => ?_)
              refine' wpAnyH_take (i := 0) ?hi0 (by kernel_rfl) (by kernel_rfl) (by kernel_rfl) ?hQ0 (Or.inl ⟨?hw0, ?hy0⟩) (by assumption) ?_
              case hi0 => (simp only [List.getElem?_toArray, List.getElem?_cons_succ, List.getElem?_cons_zero]; rfl)
              case hQ0 => exact fun _ _ _ h => h
              case hw0 => rfl
              case hy0 => (intro w' hSw; (try dsimp only at hSw); go_simp; all_goals with_reducible rfl)
              try simp only [Act.put, List.setIfInBounds_toArray, List.set_cons_zero, List.set_cons_succ]
              refine' wpAnyH_take (i := 1) ?hi1 (by kernel_rfl) (by kernel_rfl) (by kernel_rfl) ?hQ1 (Or.inl ⟨?hw1, ?hy1⟩) (by assumption) ?_
              case hi1 => (simp only [List.getElem?_toArray, List.getElem?_cons_succ, List.getElem?_cons_zero]; rfl)
              case hQ1 => exact fun _ _ _ h => h
              case hw1 => rfl
              case hy1 => (intro w' hSw; (try dsimp only at hSw); go_simp; all_goals with_reducible rfl)
              try simp only [Act.put, List.setIfInBounds_toArray, List.set_cons_zero, List.set_cons_succ]
              refine' wpAnyH_take (i := 2) ?hi2 (by kernel_rfl) (by kernel_rfl) (by kernel_rfl) ?hQ2 (Or.inl ⟨?hw2, ?hy2⟩) (by assumption) ?_
              case hi2 => (simp only [List.getElem?_toArray, List.getElem?_cons_succ, List.getElem?_cons_zero]; rfl)
              case hQ2 => exact fun _ _ _ h => h
              case hw2 => rfl
              case hy2 => (intro w' hSw; (try dsimp only at hSw); go_simp; all_goals with_reducible rfl)
              try simp only [Act.put, List.setIfInBounds_toArray, List.set_cons_zero, List.set_cons_succ]
              refine' wpAnyH_take (i := 3) ?hi3 (by kernel_rfl) (by kernel_rfl) (by kernel_rfl) ?hQ3 (Or.inl ⟨?hw3, ?hy3⟩) (by assumption) ?_
              case hi3 => (simp only [List.getElem?_toArray, List.getElem?_cons_succ, List.getElem?_cons_zero]; rfl)
              case hQ3 => exact fun _ _ _ h => h
              case hw3 => rfl
              case hy3 => (intro w' hSw; (try dsimp only at hSw); go_simp; all_goals with_reducible rfl)
              try simp only [Act.put, List.setIfInBounds_toArray, List.set_cons_zero, List.set_cons_succ]
              refine' wpAnyH_take (i := 4) ?hi4 (by kernel_rfl) (by kernel_rfl) (by kernel_rfl) ?hQ4 (Or.inl ⟨?hw4, ?hy4⟩) (by assumption) ?_
              case hi4 => (simp only [List.getElem?_toArray, List.getElem?_cons_succ, List.getElem?_cons_zero]; rfl)
              case hQ4 => exact fun _ _ _ h => h
              case hw4 => rfl
              case hy4 => (intro w' hSw; (try dsimp only at hSw); go_simp; all_goals with_reducible rfl)
              try simp only [Act.put, List.setIfInBounds_toArray, List.set_cons_zero, List.set_cons_succ]
              refine' wpAnyH_take (i := 5) ?hi5 (by kernel_rfl) (by kernel_rfl) (by kernel_rfl) ?hQ5 (Or.inl ⟨?hw5, ?hy5⟩) (by assumption) ?_
              case hi5 => (simp only [List.getElem?_toArray, List.getElem?_cons_succ, List.getElem?_cons_zero]; rfl)
              case hQ5 => exact fun _ _ _ h => h
              case hw5 => rfl
              case hy5 => (intro w' hSw; (try dsimp only at hSw); go_simp; all_goals with_reducible rfl)
              try simp only [Act.put, List.setIfInBounds_toArray, List.set_cons_zero, List.set_cons_succ]
              refine' wpAnyH_take (i := 6) ?hi6 (by kernel_rfl) (by kernel_rfl) (by kernel_rfl) ?hQ6 (Or.inl ⟨?hw6, ?hy6⟩) (by assumption) ?_
              case hi6 => (simp only [List.getElem?_toArray, List.getElem?_cons_succ, List.getElem?_cons_zero]; rfl)
              case hQ6 => exact fun _ _ _ h => h
              case hw6 => rfl
              case hy6 => (intro w' hSw; (try dsimp only at hSw); go_simp; all_goals with_reducible rfl)
              try simp only [Act.put, List.setIfInBounds_toArray, List.set_cons_zero, List.set_cons_succ]
              refine' wpAnyH_take (i := 7) ?hi7 (by kernel_rfl) (by kernel_rfl) (by kernel_rfl) ?hQ7 (Or.inl ⟨?hw7, ?hy7⟩) (by assumption) ?_
              case hi7 => (simp only [List.getElem?_toArray, List.getElem?_cons_succ, List.getElem?_cons_zero]; rfl)
              case hQ7 => exact fun _ _ _ h => h
              case hw7 => rfl
              case hy7 => (intro w' hSw; (try dsimp only at hSw); go_simp; all_goals with_reducible rfl)
              try simp only [Act.put, List.setIfInBounds_toArray, List.set_cons_zero, List.set_cons_succ]
              refine' wpAnyH_take (i := 8) ?hi8 (by kernel_rfl) (by kernel_rfl) (by kernel_rfl) ?hQ8 (Or.inl ⟨?hw8, ?hy8⟩) (by assumption) ?_
              case hi8 => (simp only [List.getElem?_toArray, List.getElem?_cons_succ, List.getElem?_cons_zero]; rfl)
              case hQ8 => exact fun _ _ _ h => h
              case hw8 => rfl
              case hy8 => (intro w' hSw; (try dsimp only at hSw); go_simp; all_goals with_reducible rfl)
              try simp only [Act.put, List.setIfInBounds_toArray, List.set_cons_zero, List.set_cons_succ]
              refine wpAnyH_ready (rs := [9]) (by kernel_rfl) (by simp) ?_
              refine AllReadyH.cons rfl (fun K hK => ?_) AllReadyH.nil
              go_simp
              (go_at_call 51; refine (all_any y.lines 43 _ _ (HLY.out.never (And.left (by assumption))) (by decide) (by decide) (by omega)).mono ?_; rintro e wq ⟨rq, rfl, hcq, hrq⟩; obtain ⟨qa, qc, rfl, _, _, _⟩ := rdv_slice hrq; have hS2 := two_keep (by assumption) hcq)
              try go_wp2_with fail
              refine hK.out _ _ ?_ (fun hH => ?_)
              · assumption
              clear hK K
              try simp only [Act.put, List.setIfInBounds_toArray, List.set_cons_zero, List.set_cons_succ]
              refine' wpAnyH_take (i := 10) ?hi10 (by kernel_rfl) (by kernel_rfl) (by kernel_rfl) ?hQ10 (Or.inl ⟨?hw10, ?hy10⟩) (by assumption) ?_
              case hi10 => (simp only [List.getElem?_toArray, List.getElem?_cons_succ, List.getElem?_cons_zero]; rfl)
              case hQ10 => exact fun _ _ _ h => h
              case hw10 => rfl
              case hy10 => (intro w' hSw; (try dsimp only at hSw); go_simp; all_goals with_reducible rfl)
              try simp only [Act.put, List.setIfInBounds_toArray, List.set_cons_zero, List.set_cons_succ]
              refine wpAnyH_ready (rs := [11]) (by kernel_rfl) (by simp) ?_
              refine AllReadyH.cons rfl (fun K hK => ?_) AllReadyH.nil
              go_simp
              refine hK.out _ _ (two_keep hH ((Chg.refl Never _).alloc _)) (fun hH2 => ?_)
              clear hK K
              try simp only [Act.put, List.setIfInBounds_toArray, List.set_cons_zero, List.set_cons_succ]
              have hnq := (hn.never (Chg.refl Never _).drew).never hcq
              have hyq : Dat.rd _ (fun k => Never k ∨ _ = some k) _ (⟨2, y.path, wholeR y.lines 43⟩ : Change) := ⟨_, rfl, hpy, hn.fresh hrq⟩
              refine wpAnyH_ready (rs := [12]) (by kernel_rfl) (by simp) ?_
              refine AllReadyH.cons rfl (fun K hK => ?_) AllReadyH.nil
              refine step_push (by rfl) _ _ 51 (by rfl) elemOk_change (O := Never) (l := L) (y := ⟨2, y.path, wholeR y.lines 43⟩) (by rfl) (by rfl) (by simp) hnq.own hyq (fun _ h => h.elim) hLl ?_
              intro v' wp hown2 hc2 hk2
              have hn2 := hnq.step1 hown2 hc2 hk2
              obtain ⟨oa2, on2, oc2, rfl⟩ := own_isSlice hn2.own
              refine hK.out _ _ ⟨hn2.chg, hn2.chg.cellNever D0.out, hn2.chg.cellNever D1.out⟩ (fun _ => ?_)
              clear hK K hnq hyq hown2 hc2 hk2 hH hH2 hS2 hcq hrq hn
              try simp only [Act.put, List.setIfInBounds_toArray, List.set_cons_zero, List.set_cons_succ]
              refine' wpAnyH_take (i := 13) ?hi13 (by kernel_rfl) (by kernel_rfl) (by kernel_rfl) ?hQ13 (Or.inl ⟨?hw13, ?hy13⟩) (by assumption) ?_
              case hi13 => (simp only [List.getElem?_toArray, List.getElem?_cons_succ, List.getElem?_cons_zero]; rfl)
              case hQ13 => exact fun _ _ _ h => h
              case hw13 => rfl
              case hy13 => (intro w' hSw; (try dsimp only at hSw); go_simp; all_goals with_reducible rfl)
              try simp only [Act.put, List.setIfInBounds_toArray, List.set_cons_zero, List.set_cons_succ]
              refine wpAnyH_done (by kernel_rfl) ?_ _
              go_wp2_with fail
              go_roundw
              case rel => exact ⟨_, B.drop 1, L ++ [⟨2, y.path, wholeR y.lines 43⟩], hA, hsb, hn2, FA, FB.out.drop, by rw [List.length_append, hdb]; simp; omega, by rw [Hid, List.append_assoc, ← HG.out]; exact HL.out⟩
              case measure => simp [sliceLen]; omega
          · obtain ⟨x, hx⟩ : ∃ x, A[0]? = some x := ⟨A[0], by simp [hA0]⟩
            obtain ⟨xb, xo, xv, rfl, _, _, c0, c1, hpx, hlx⟩ := elems_file a3 hx
            simp only [Nat.zero_mul, Nat.add_zero] at c0 c1
            have HLX := Lib.hid hlx
            have FX := Lib.hid (FA.out.get hx)
            have hxl := linesFault_len FX.out
            obtain ⟨xa, xcap, rfl, _, _, _⟩ := rdv_slice hlx
            have C0 := Lib.hid c0
            have C1 := Lib.hid c1
            have c0 := hn.chg.cellNever c0
            have c1 := hn.chg.cellNever c1
            have HX := Lib.hid hx
            obtain ⟨sa, _, hrunA, _, hsa⟩ := slice_gen (P := Tryd.prog) (t := 34) (by kernel_rfl) size_file hA 1 A.length (by omega) (Nat.le_refl _)
            have hrunA := fun (wx : World) => hrunA 1 wx rfl rfl
            rw [List.take_of_length_le (Nat.le_of_eq List.length_drop)] at hsa
            have hda : (A.drop 1).length = A.length - 1 := List.length_drop
            have p0 : ((A.length : Int) == 0) = false := beq_eq_false_iff_ne.2 (by omega)
            have p1 : decide ((A.length : Int) > 0) = true := by simp; omega
            clear hx hlx
            rcases Nat.eq_zero_or_pos B.length with hB0 | hB0
            · obtain rfl : B = [] := List.eq_nil_of_length_eq_zero hB0
              have HG := Lib.hid (diffG_take (n := n) (b := []) HX.out (.inl rfl))
              clear b3 a3
              go_wp2_with fail
              go_quiet (fail)
              generalize hqq : World.drewN wr _ = wr2
              have hn := hqq ▸ hn.never ((Chg.refl Never wr).drewN _)
              clear hqq
              try clear c0 c1
              try clear d0 d1
              try have c0 := hn.chg.cellNever C0.out
              try have c1 := hn.chg.cellNever C1.out
              try have d0 := hn.chg.cellNever D0.out
              try have d1 := hn.chg.cellNever D1.out
              go_wp2_with fail
              refine wp_region_held_drew (S := fun w' => Chg Never wL w' ∧ w'.cell? ⟨xb, xo, none⟩ = some (.string x.path) ∧ w'.cell? ⟨xb, xo + 1, none⟩ = some (.slice xa x.lines.length xcap)) (by kernel_rfl) ⟨hn.chg.drew, hn.chg.cellNever C0.out, hn.chg.cellNever C1.out⟩ (fun hH => ?_)
              refine' wpAnyH_take (i := 0) ?hi0 (by kernel_rfl) (by kernel_rfl) (by kernel_rfl) ?hQ0 (Or.inl ⟨?hw0, ?hy0⟩) (by assumption) ?_
              case hi0 => (simp only [List.getElem?_toArray, List.getElem?_cons_succ, List.getElem?_cons_zero]; rfl)
              case hQ0 => exact fun _ _ _ h => h
              case hw0 => rfl
              case hy0 => (intro w' hSw; (try dsimp only at hSw); go_simp; all_goals with_reducible rfl)
              try simp only [Act.put, List.setIfInBounds_toArray, List.set_cons_zero, List.set_cons_succ]
              refine' wpAnyH_take (i := 1) ?hi1 (by kernel_rfl) (by kernel_rfl) (by kernel_rfl) ?hQ1 (Or.inl ⟨?hw1, ?hy1⟩) (by assumption) ?_
              case hi1 => (simp only [List.getElem?_toArray, List.getElem?_cons_succ, List.getElem?_cons_zero]; rfl)
              case hQ1 => exact fun _ _ _ h => h
              case hw1 => rfl
              case hy1 => (intro w' hSw; (try dsimp only at hSw); go_simp; all_goals with_reducible rfl)
              try simp only [Act.put, List.setIfInBounds_toArray, List.set_cons_zero, List.set_cons_succ]
              refine' wpAnyH_take (i := 2) ?hi2 (by kernel_rfl) (by kernel_rfl) (by kernel_rfl) ?hQ2 (Or.inl ⟨?hw2, ?hy2⟩) (by assumption) ?_
              case hi2 => (simp only [List.getElem?_toArray, List.getElem?_cons_succ, List.getElem?_cons_zero]; rfl)
              case hQ2 => exact fun _ _ _ h => h
              case hw2 => rfl
              case hy2 => (intro w' hSw; (try dsimp only at hSw); go_simp; all_goals with_reducible rfl)
              try simp only [Act.put, List.setIfInBounds_toArray, List.set_cons_zero, List.set_cons_succ]
              refine' wpAnyH_take (i := 3) ?hi3 (by kernel_rfl) (by kernel_rfl) (by kernel_rfl) ?hQ3 (Or.inl ⟨?hw3, ?hy3⟩) (by assumption) ?_
              case hi3 => (simp only [List.getElem?_toArray, List.getElem?_cons_succ, List.getElem?_cons_zero]; rfl)
              case hQ3 => exact fun _ _ _ h => h
              case hw3 => rfl
              case hy3 => (intro w' hSw; (try dsimp only at hSw); go_simp; all_goals with_reducible rfl)
              try simp only [Act.put, List.setIfInBounds_toArray, List.set_cons_zero, List.set_cons_succ]
              refine' wpAnyH_take (i := 4) ?hi4 (by kernel_rfl) (by kernel_rfl) (by kernel_rfl) ?hQ4 (Or.inl ⟨?hw4, ?hy4⟩) (by assumption) ?_
              case hi4 => (simp only [List.getElem?_toArray, List.getElem?_cons_succ, List.getElem?_cons_zero]; rfl)
              case hQ4 => exact fun _ _ _ h => h
              case hw4 => rfl
              case hy4 => (intro w' hSw; (try dsimp only at hSw); go_simp; all_goals with_reducible rfl)
              try simp only [Act.put, List.setIfInBounds_toArray, List.set_cons_zero, List.set_cons_succ]
              refine' wpAnyH_take (i := 5) ?hi5 (by kernel_rfl) (by kernel_rfl) (by kernel_rfl) ?hQ5 (Or.inl ⟨?hw5, ?hy5⟩) (by assumption) ?_
              case hi5 => (simp only [List.getElem?_toArray, List.getElem?_cons_succ, List.getElem?_cons_zero]; rfl)
              case hQ5 => exact fun _ _ _ h => h
              case hw5 => rfl
              case hy5 => (intro w' hSw; (try dsimp only at hSw); go_simp; all_goals with_reducible rfl)
              try simp only [Act.put, List.setIfInBounds_toArray, List.set_cons_zero, List.set_cons_succ]
              refine' wpAnyH_take (i := 6) ?hi6 (by kernel_rfl) (by kernel_rfl) (by kernel_rfl) ?hQ6 (Or.inl ⟨?hw6, ?hy6⟩) (by assumption) ?_
              case hi6 => (simp only [List.getElem?_toArray, List.getElem?_cons_succ, List.getElem?_cons_zero]; rfl)
              case hQ6 => exact fun _ _ _ h => h
              case hw6 => rfl
              case hy6 => (intro w' hSw; (try dsimp only at hSw); go_simp; all_goals with_reducible rfl)
              try simp only [Act.put, List.setIfInBounds_toArray, List.set_cons_zero, List.set_cons_succ]
              refine' wpAnyH_take (i := 7) ?hi7 (by kernel_rfl) (by kernel_rfl) (by kernel_rfl) ?hQ7 (Or.inl ⟨?hw7, ?hy7⟩) (by assumption) ?_
              case hi7 => (simp only [List.getElem?_toArray, List.getElem?_cons_succ, List.getElem?_cons_zero]; rfl)
              case hQ7 => exact fun _ _ _ h => h
              case hw7 => rfl
              case hy7 => (intro w' hSw; (try dsimp only at hSw); go_simp; all_goals with_reducible rfl)
              try simp only [Act.put, List.setIfInBounds_toArray, List.set_cons_zero, List.set_cons_succ]
              refine' wpAnyH_take (i := 8) ?hi8 (by kernel_rfl) (by kernel_rfl) (by kernel_rfl) ?hQ8 (Or.inl ⟨?hw8, ?hy8⟩) (by assumption) ?_
              case hi8 => (simp only [List.getElem?_toArray, List.getElem?_cons_succ, List.getElem?_cons_zero]; rfl)
              case hQ8 => exact fun _ _ _ h => h
              case hw8 => rfl
              case hy8 => (intro w' hSw; (try dsimp only at hSw); go_simp; all_goals with_reducible rfl)
              try simp only [Act.put, List.setIfInBounds_toArray, List.set_cons_zero, List.set_cons_succ]
              refine wpAnyH_ready (rs := [9]) (by kernel_rfl) (by simp) ?_
              refine AllReadyH.cons rfl (fun K hK => ?_) AllReadyH.nil
              go_simp
              (go_at_call 51; refine (all_any x.lines 45 _ _ (HLX.out.never (And.left (by assumption))) (by decide) (by decide) (by omega)).mono ?_; rintro e wq ⟨rq, rfl, hcq, hrq⟩; obtain ⟨qa, qc, rfl, _, _, _⟩ := rdv_slice hrq; have hS2 := two_keep (by assumption) hcq)
              try go_wp2_with fail
              refine hK.out _ _ ?_ (fun hH => ?_)
              · assumption
              clear hK K
              try simp only [Act.put, List.setIfInBounds_toArray, List.set_cons_zero, List.set_cons_succ]
              refine' wpAnyH_take (i := 10) ?hi10 (by kernel_rfl) (by kernel_rfl) (by kernel_rfl) ?hQ10 (Or.inl ⟨?hw10, ?hy10⟩) (by assumption) ?_
              case hi10 => (simp only [List.getElem?_toArray, List.getElem?_cons_succ, List.getElem?_cons_zero]; rfl)
              case hQ10 => exact fun _ _ _ h => h
              case hw10 => rfl
              case hy10 => (intro w' hSw; (try dsimp only at hSw); go_simp; all_goals with_reducible rfl)
              try simp only [Act.put, List.setIfInBounds_toArray, List.set_cons_zero, List.set_cons_succ]
              refine wpAnyH_ready (rs := [11]) (by kernel_rfl) (by simp) ?_
              refine AllReadyH.cons rfl (fun K hK => ?_) AllReadyH.nil
              go_simp
              refine hK.out _ _ (two_keep hH ((Chg.refl Never _).alloc _)) (fun hH2 => ?_)
              clear hK K
              try simp only [Act.put, List.setIfInBounds_toArray, List.set_cons_zero, List.set_cons_succ]
              have hnq := (hn.never (Chg.refl Never _).drew).never hcq
              have hyq : Dat.rd _ (fun k => Never k ∨ _ = some k) _ (⟨3, x.path, wholeR x.lines 45⟩ : Change) := ⟨_, rfl, hpx, hn.fresh hrq⟩
              refine wpAnyH_ready (rs := [12]) (by kernel_rfl) (by simp) ?_
              refine AllReadyH.cons rfl (fun K hK => ?_) AllReadyH.nil
              refine step_push (by rfl) _ _ 51 (by rfl) elemOk_change (O := Never) (l := L) (y := ⟨3, x.path, wholeR x.lines 45⟩) (by rfl) (by rfl) (by simp) hnq.own hyq (fun _ h => h.elim) hLl ?_
              intro v' wp hown2 hc2 hk2
              have hn2 := hnq.step1 hown2 hc2 hk2
              obtain ⟨oa2, on2, oc2, rfl⟩ := own_isSlice hn2.own
              refine hK.out _ _ ⟨hn2.chg, hn2.chg.cellNever C0.out, hn2.chg.cellNever C1.out⟩ (fun _ => ?_)
              clear hK K hnq hyq hown2 hc2 hk2 hH hH2 hS2 hcq hrq hn
              try simp only [Act.put, List.setIfInBounds_toArray, List.set_cons_zero, List.set_cons_succ]
              refine' wpAnyH_take (i := 13) ?hi13 (by kernel_rfl) (by kernel_rfl) (by kernel_rfl) ?hQ13 (Or.inl ⟨?hw13, ?hy13⟩) (by assumption) ?_
              case hi13 => (simp only [List.getElem?_toArray, List.getElem?_cons_succ, List.getElem?_cons_zero]; rfl)
              case hQ13 => exact fun _ _ _ h => h
              case hw13 => rfl
              case hy13 => (intro w' hSw; (try dsimp only at hSw); go_simp; all_goals with_reducible rfl)
              try simp only [Act.put, List.setIfInBounds_toArray, List.set_cons_zero, List.set_cons_succ]
              refine wpAnyH_done (by kernel_rfl) ?_ _
              go_wp2_with fail
              go_roundw
              case rel => exact ⟨A.drop 1, _, L ++ [⟨3, x.path, wholeR x.lines 45⟩], hsa, hB, hn2, FA.out.drop, FB, by rw [List.length_append, hda]; simp; omega, by rw [Hid, List.append_assoc, ← HG.out]; exact HL.out⟩
              case measure => simp [sliceLen]; omega
            · obtain ⟨y, hy⟩ : ∃ y, B[0]? = some y := ⟨B[0], by simp [hB0]⟩
              obtain ⟨yb, yo, yv, rfl, _, _, d0, d1, hpy, hly⟩ := elems_file b3 hy
              simp only [Nat.zero_mul, Nat.add_zero] at d0 d1
              have HLY := Lib.hid hly
              have FY := Lib.hid (FB.out.get hy)
              have hyl := linesFault_len FY.out
              obtain ⟨ya, ycap, rfl, _, _, _⟩ := rdv_slice hly
              have D0 := Lib.hid d0
              have D1 := Lib.hid d1
              have d0 := hn.chg.cellNever d0
              have d1 := hn.chg.cellNever d1
              have HY := Lib.hid hy
              obtain ⟨sb, _, hrunB, _, hsb⟩ := slice_gen (P := Tryd.prog) (t := 34) (by kernel_rfl) size_file hB 1 B.length (by omega) (Nat.le_refl _)
              have hrunB := fun (wx : World) => hrunB 1 wx rfl rfl
              rw [List.take_of_length_le (Nat.le_of_eq List.length_drop)] at hsb
              have hdb : (B.drop 1).length = B.length - 1 := List.length_drop
              have q0 : ((B.length : Int) == 0) = false := beq_eq_false_iff_ne.2 (by omega)
              have q1 : decide ((B.length : Int) > 0) = true := by simp; omega
              clear hy hly
              by_cases l1 : less x.path y.path = true
              · have t1 : Op.bytesLess x.path.toList y.path.toList = true := l1
                have HG := Lib.hid (diffG_take (n := n) HX.out (.inr ⟨y, HY.out, l1⟩))
                clear a3 b3 l1
                go_wp2_with fail
                go_quiet (fail)
                generalize hqq : World.drewN wr _ = wr2
                have hn := hqq ▸ hn.never ((Chg.refl Never wr).drewN _)
                clear hqq
                try clear c0 c1
                try clear d0 d1
                try have c0 := hn.chg.cellNever C0.out
                try have c1 := hn.chg.cellNever C1.out
                try have d0 := hn.chg.cellNever D0.out
                try have d1 := hn.chg.cellNever D1.out
                go_wp2_with fail
                refine wp_region_held_drew (S := fun w' => Chg Never wL w' ∧ w'.cell? ⟨xb, xo, none⟩ = some (.string x.path) ∧ w'.cell? ⟨xb, xo + 1, none⟩ = some (.slice xa x.lines.length xcap)) (by kernel_rfl) ⟨hn.chg.drew, hn.chg.cellNever C0.out, hn.chg.cellNever C1.out⟩ (fun hH => ?_)
                refine' wpAnyH_take (i := 0) ?hi0 (by kernel_rfl) (by kernel_rfl) (by kernel_rfl) ?hQ0 (Or.inl ⟨?hw0, ?hy0⟩) (by assumption) ?_
                case hi0 => (simp only [List.getElem?_toArray, List.getElem?_cons_succ, List.getElem?_cons_zero]; rfl)
                case hQ0 => exact fun _ _ _ h => h
                case hw0 => rfl
                case hy0 => (intro w' hSw; (try dsimp only at hSw); go_simp; all_goals with_reducible rfl)
                try simp only [Act.put, List.setIfInBounds_toArray, List.set_cons_zero, List.set_cons_succ]
                refine' wpAnyH_take (i := 1) ?hi1 (by kernel_rfl) (by kernel_rfl) (by kernel_rfl) ?hQ1 (Or.inl ⟨?hw1, ?hy1⟩) (by assumption) ?_
                case hi1 => (simp only [List.getElem?_toArray, List.getElem?_cons_succ, List.getElem?_cons_zero]; rfl)
                case hQ1 => exact fun _ _ _ h => h
                case hw1 => rfl
                case hy1 => (intro w' hSw; (try dsimp only at hSw); go_simp; all_goals with_reducible rfl)
                try simp only [Act.put, List.setIfInBounds_toArray, List.set_cons_zero, List.set_cons_succ]
                refine' wpAnyH_take (i := 2) ?hi2 (by kernel_rfl) (by kernel_rfl) (by kernel_rfl) ?hQ2 (Or.inl ⟨?hw2, ?hy2⟩) (by assumption) ?_
                case hi2 => (simp only [List.getElem?_toArray, List.getElem?_cons_succ, List.getElem?_cons_zero]; rfl)
                case hQ2 => exact fun _ _ _ h => h
                case hw2 => rfl
                case hy2 => (intro w' hSw; (try dsimp only at hSw); go_simp; all_goals with_reducible rfl)
                try simp only [Act.put, List.setIfInBounds_toArray, List.set_cons_zero, List.set_cons_succ]
                refine' wpAnyH_take (i := 3) ?hi3 (by kernel_rfl) (by kernel_rfl) (by kernel_rfl) ?hQ3 (Or.inl ⟨?hw3, ?hy3⟩) (by assumption) ?_
                case hi3 => (simp only [List.getElem?_toArray, List.getElem?_cons_succ, List.getElem?_cons_zero]; rfl)
                case hQ3 => exact fun _ _ _ h => h
                case hw3 => rfl
                case hy3 => (intro w' hSw; (try dsimp only at hSw); go_simp; all_goals with_reducible rfl)
                try simp only [Act.put, List.setIfInBounds_toArray, List.set_cons_zero, List.set_cons_succ]
                refine' wpAnyH_take (i := 4) ?hi4 (by kernel_rfl) (by kernel_rfl) (by kernel_rfl) ?hQ4 (Or.inl ⟨?hw4, ?hy4⟩) (by assumption) ?_
                case hi4 => (simp only [List.getElem?_toArray, List.getElem?_cons_succ, List.getElem?_cons_zero]; rfl)
                case hQ4 => exact fun _ _ _ h => h
                case hw4 => rfl
                case hy4 => (intro w' hSw; (try dsimp only at hSw); go_simp; all_goals with_reducible rfl)
                try simp only [Act.put, List.setIfInBounds_toArray, List.set_cons_zero, List.set_cons_succ]
                refine' wpAnyH_take (i := 5) ?hi5 (by kernel_rfl) (by kernel_rfl) (by kernel_rfl) ?hQ5 (Or.inl ⟨?hw5, ?hy5⟩) (by assumption) ?_
                case hi5 => (simp only [List.getElem?_toArray, List.getElem?_cons_succ, List.getElem?_cons_zero]; rfl)
                case hQ5 => exact fun _ _ _ h => h
                case hw5 => rfl
                case hy5 => (intro w' hSw; (try dsimp only at hSw); go_simp; all_goals with_reducible rfl)
                try simp only [Act.put, List.setIfInBounds_toArray, List.set_cons_zero, List.set_cons_succ]
                refine' wpAnyH_take (i := 6) ?hi6 (by kernel_rfl) (by kernel_rfl) (by kernel_rfl) ?hQ6 (Or.inl ⟨?hw6, ?hy6⟩) (by assumption) ?_
                case hi6 => (simp only [List.getElem?_toArray, List.getElem?_cons_succ, List.getElem?_cons_zero]; rfl)
                case hQ6 => exact fun _ _ _ h => h
                case hw6 => rfl
                case hy6 => (intro w' hSw; (try dsimp only at hSw); go_simp; all_goals with_reducible rfl)
                try simp only [Act.put, List.setIfInBounds_toArray, List.set_cons_zero, List.set_cons_succ]
                refine' wpAnyH_take (i := 7) ?hi7 (by kernel_rfl) (by kernel_rfl) (by kernel_rfl) ?hQ7 (Or.inl ⟨?hw7, ?hy7⟩) (by assumption) ?_
                case hi7 => (simp only [List.getElem?_toArray, List.getElem?_cons_succ, List.getElem?_cons_zero]; rfl)
                case hQ7 => exact fun _ _ _ h => h
                case hw7 => rfl
                case hy7 => (intro w' hSw; (try dsimp only at hSw); go_simp; all_goals with_reducible rfl)
                try simp only [Act.put, List.setIfInBounds_toArray, List.set_cons_zero, List.set_cons_succ]
                refine' wpAnyH_take (i := 8) ?hi8 (by kernel_rfl) (by kernel_rfl) (by kernel_rfl) ?hQ8 (Or.inl ⟨?hw8, ?hy8⟩) (by assumption) ?_
                case hi8 => (simp only [List.getElem?_toArray, List.getElem?_cons_succ, List.getElem?_cons_zero]; rfl)
                case hQ8 => exact fun _ _ _ h => h
                case hw8 => rfl
                case hy8 => (intro w' hSw; (try dsimp only at hSw); go_simp; all_goals with_reducible rfl)
                try simp only [Act.put, List.setIfInBounds_toArray, List.set_cons_zero, List.set_cons_succ]
                refine wpAnyH_ready (rs := [9]) (by kernel_rfl) (by simp) ?_
                refine AllReadyH.cons rfl (fun K hK => ?_) AllReadyH.nil
                go_simp
                (go_at_call 51; refine (all_any x.lines 45 _ _ (HLX.out.never (And.left (by assumption))) (by decide) (by decide) (by omega)).mono ?_; rintro e wq ⟨rq, rfl, hcq, hrq⟩; obtain ⟨qa, qc, rfl, _, _, _⟩ := rdv_slice hrq; have hS2 := two_keep (by assumption) hcq)
                try go_wp2_with fail
                refine hK.out _ _ ?_ (fun hH => ?_)
                · assumption
                clear hK K
                try simp only [Act.put, List.setIfInBounds_toArray, List.set_cons_zero, List.set_cons_succ]
                refine' wpAnyH_take (i := 10) ?hi10 (by kernel_rfl) (by kernel_rfl) (by kernel_rfl) ?hQ10 (Or.inl ⟨?hw10, ?hy10⟩) (by assumption) ?_
                case hi10 => (simp only [List.getElem?_toArray, List.getElem?_cons_succ, List.getElem?_cons_zero]; rfl)
                case hQ10 => exact fun _ _ _ h => h
                case hw10 => rfl
                case hy10 => (intro w' hSw; (try dsimp only at hSw); go_simp; all_goals with_reducible rfl)
                try simp only [Act.put, List.setIfInBounds_toArray, List.set_cons_zero, List.set_cons_succ]
                refine wpAnyH_ready (rs := [11]) (by kernel_rfl) (by simp) ?_
                refine AllReadyH.cons rfl (fun K hK => ?_) AllReadyH.nil
                go_simp
                refine hK.out _ _ (two_keep hH ((Chg.refl Never _).alloc _)) (fun hH2 => ?_)
                clear hK K
                try simp only [Act.put, List.setIfInBounds_toArray, List.set_cons_zero, List.set_cons_succ]
                have hnq := (hn.never (Chg.refl Never _).drew).never hcq
                have hyq : Dat.rd _ (fun k => Never k ∨ _ = some k) _ (⟨3, x.path, wholeR x.lines 45⟩ : Change) := ⟨_, rfl, hpx, hn.fresh hrq⟩
                refine wpAnyH_ready (rs := [12]) (by kernel_rfl) (by simp) ?_
                refine AllReadyH.cons rfl (fun K hK => ?_) AllReadyH.nil
                refine step_push (by rfl) _ _ 51 (by rfl) elemOk_change (O := Never) (l := L) (y := ⟨3, x.path, wholeR x.lines 45⟩) (by rfl) (by rfl) (by simp) hnq.own hyq (fun _ h => h.elim) hLl ?_
                intro v' wp hown2 hc2 hk2
                have hn2 := hnq.step1 hown2 hc2 hk2
                obtain ⟨oa2, on2, oc2, rfl⟩ := own_isSlice hn2.own
                refine hK.out _ _ ⟨hn2.chg, hn2.chg.cellNever C0.out, hn2.chg.cellNever C1.out⟩ (fun _ => ?_)
                clear hK K hnq hyq hown2 hc2 hk2 hH hH2 hS2 hcq hrq hn
                try simp only [Act.put, List.setIfInBounds_toArray, List.set_cons_zero, List.set_cons_succ]
                refine' wpAnyH_take (i := 13) ?hi13 (by kernel_rfl) (by kernel_rfl) (by kernel_rfl) ?hQ13 (Or.inl ⟨?hw13, ?hy13⟩) (by assumption) ?_
                case hi13 => (simp only [List.getElem?_toArray, List.getElem?_cons_succ, List.getElem?_cons_zero]; rfl)
                case hQ13 => exact fun _ _ _ h => h
                case hw13 => rfl
                case hy13 => (intro w' hSw; (try dsimp only at hSw); go_simp; all_goals with_reducible rfl)
                try simp only [Act.put, List.setIfInBounds_toArray, List.set_cons_zero, List.set_cons_succ]
                refine wpAnyH_done (by kernel_rfl) ?_ _
                go_wp2_with fail
                go_roundw
                case rel => exact ⟨A.drop 1, _, L ++ [⟨3, x.path, wholeR x.lines 45⟩], hsa, hB, hn2, FA.out.drop, FB, by rw [List.length_append, hda]; simp; omega, by rw [Hid, List.append_assoc, ← HG.out]; exact HL.out⟩
                case measure => simp [sliceLen]; omega
              · have t1 : Op.bytesLess x.path.toList y.path.toList = false := by simpa [less] using l1
                by_cases l2 : less y.path x.path = true
                · have t2 : Op.bytesLess y.path.toList x.path.toList = true := l2
                  have HG := Lib.hid (diffG_put (n := n) HY.out (.inr ⟨x, HX.out, l1, l2⟩))
                  clear a3 b3 l1 l2
                  go_wp2_with fail
                  go_quiet (fail)
                  generalize hqq : World.drewN wr _ = wr2
                  have hn := hqq ▸ hn.never ((Chg.refl Never wr).drewN _)
                  clear hqq
                  try clear c0 c1
                  try clear d0 d1
                  try have c0 := hn.chg.cellNever C0.out
                  try have c1 := hn.chg.cellNever C1.out
                  try have d0 := hn.chg.cellNever D0.out
                  try have d1 := hn.chg.cellNever D1.out
                  go_wp2_with fail
                  go_quiet (fail)
                  generalize hqq : World.drewN wr2 _ = wr3
                  have hn := hqq ▸ hn.never ((Chg.refl Never wr2).drewN _)
                  clear hqq
                  try clear c0 c1
                  try clear d0 d1
                  try have c0 := hn.chg.cellNever C0.out
                  try have c1 := hn.chg.cellNever C1.out
                  try have d0 := hn.chg.cellNever D0.out
                  try have d1 := hn.chg.cellNever D1.out
                  go_wp2_with fail
                  refine wp_region_held_drew (S := fun w' => Chg Never wL w' ∧ w'.cell? ⟨yb, yo, none⟩ = some (.string y.path) ∧ w'.cell? ⟨yb, yo + 1, none⟩ = some (.slice ya y.lines.length ycap)) (by kernel_rfl) ⟨hn.chg.drew, hn.chg.cellNever D0.out, hn.chg.cellNever D1.out⟩ (fun hH => ?_)
                  refine' wpAnyH_take (i := 0) ?hi0 (by kernel_rfl) (by kernel_rfl) (by kernel_rfl) ?hQ0 (Or.inl ⟨?hw0, ?hy0⟩) (by assumption) ?_
                  case hi0 => (simp only [List.getElem?_toArray, List.getElem?_cons_succ, List.getElem?_cons_zero]; rfl)
                  case hQ0 => exact fun _ _ _ h => h
                  case hw0 => rfl
                  case hy0 => (intro w' hSw; (try dsimp only at hSw); go_simp; all_goals with_reducible rfl)
                  try simp only [Act.put, List.setIfInBounds_toArray, List.set_cons_zero, List.set_cons_succ]
                  refine' wpAnyH_take (i := 1) ?hi1 (by kernel_rfl) (by kernel_rfl) (by kernel_rfl) ?hQ1 (Or.inl ⟨?hw1, ?hy1⟩) (by assumption) ?_
                  case hi1 => (simp only [List.getElem?_toArray, List.getElem?_cons_succ, List.getElem?_cons_zero]; rfl)
                  case hQ1 => exact fun _ _ _ h => h
                  case hw1 => rfl
                  case hy1 => (intro w' hSw; (try dsimp only at hSw); go_simp; all_goals with_reducible rfl)
                  try simp only [Act.put, List.setIfInBounds_toArray, List.set_cons_zero, List.set_cons_succ]
                  refine' wpAnyH_take (i := 2) ?hi2 (by kernel_rfl) (by kernel_rfl) (by kernel_rfl) ?hQ2 (Or.inl ⟨?hw2, ?hy2⟩) (by assumption) ?_
                  case hi2 => (simp only [List.getElem?_toArray, List.getElem?_cons_succ, List.getElem?_cons_zero]; rfl)
                  case hQ2 => exact fun _ _ _ h => h
                  case hw2 => rfl
                  case hy2 => (intro w' hSw; (try dsimp only at hSw); go_simp; all_goals with_reducible rfl)
                  try simp only [Act.put, List.setIfInBounds_toArray, List.set_cons_zero, List.set_cons_succ]
                  refine' wpAnyH_take (i := 3) ?hi3 (by kernel_rfl) (by kernel_rfl) (by kernel_rfl) ?hQ3 (Or.inl ⟨?hw3, ?hy3⟩) (by assumption) ?_
                  case hi3 => (simp only [List.getElem?_toArray, List.getElem?_cons_succ, List.getElem?_cons_zero]; rfl)
                  case hQ3 => exact fun _ _ _ h => h
                  case hw3 => rfl
                  case hy3 => (intro w' hSw; (try dsimp only at hSw); go_simp; all_goals with_reducible rfl)
                  try simp only [Act.put, List.setIfInBounds_toArray, List.set_cons_zero, List.set_cons_succ]
                  refine' wpAnyH_take (i := 4) ?hi4 (by kernel_rfl) (by kernel_rfl) (by kernel_rfl) ?hQ4 (Or.inl ⟨?hw4, ?hy4⟩) (by assumption) ?_
                  case hi4 => (simp only [List.getElem?_toArray, List.getElem?_cons_succ, List.getElem?_cons_zero]; rfl)
                  case hQ4 => exact fun _ _ _ h => h
                  case hw4 => rfl
                  case hy4 => (intro w' hSw; (try dsimp only at hSw); go_simp; all_goals with_reducible rfl)
                  try simp only [Act.put, List.setIfInBounds_toArray, List.set_cons_zero, List.set_cons_succ]
                  refine' wpAnyH_take (i := 5) ?hi5 (by kernel_rfl) (by kernel_rfl) (by kernel_rfl) ?hQ5 (Or.inl ⟨?hw5, ?hy5⟩) (by assumption) ?_
                  case hi5 => (simp only [List.getElem?_toArray, List.getElem?_cons_succ, List.getElem?_cons_zero]; rfl)
                  case hQ5 => exact fun _ _ _ h => h
                  case hw5 => rfl
                  case hy5 => (intro w' hSw; (try dsimp only at hSw); go_simp; all_goals with_reducible rfl)
                  try simp only [Act.put, List.setIfInBounds_toArray, List.set_cons_zero, List.set_cons_succ]
                  refine' wpAnyH_take (i := 6) ?hi6 (by kernel_rfl) (by kernel_rfl) (by kernel_rfl) ?hQ6 (Or.inl ⟨?hw6, ?hy6⟩) (by assumption) ?_
                  case hi6 => (simp only [List.getElem?_toArray, List.getElem?_cons_succ, List.getElem?_cons_zero]; rfl)
                  case hQ6 => exact fun _ _ _ h => h
                  case hw6 => rfl
                  case hy6 => (intro w' hSw; (try dsimp only at hSw); go_simp; all_goals with_reducible rfl)
                  try simp only [Act.put, List.setIfInBounds_toArray, List.set_cons_zero, List.set_cons_succ]
                  refine' wpAnyH_take (i := 7) ?hi7 (by kernel_rfl) (by kernel_rfl) (by kernel_rfl) ?hQ7 (Or.inl ⟨?hw7, ?hy7⟩) (by assumption) ?_
                  case hi7 => (simp only [List.getElem?_toArray, List.getElem?_cons_succ, List.getElem?_cons_zero]; rfl)
                  case hQ7 => exact fun _ _ _ h => h
                  case hw7 => rfl
                  case hy7 => (intro w' hSw; (try dsimp only at hSw); go_simp; all_goals with_reducible rfl)
                  try simp only [Act.put, List.setIfInBounds_toArray, List.set_cons_zero, List.set_cons_succ]
                  refine' wpAnyH_take (i := 8) ?hi8 (by kernel_rfl) (by kernel_rfl) (by kernel_rfl) ?hQ8 (Or.inl ⟨?hw8, ?hy8⟩) (by assumption) ?_
                  case hi8 => (simp only [List.getElem?_toArray, List.getElem?_cons_succ, List.getElem?_cons_zero]; rfl)
                  case hQ8 => exact fun _ _ _ h => h
                  case hw8 => rfl
                  case hy8 => (intro w' hSw; (try dsimp only at hSw); go_simp; all_goals with_reducible rfl)
                  try simp only [Act.put, List.setIfInBounds_toArray, List.set_cons_zero, List.set_cons_succ]
                  refine wpAnyH_ready (rs := [9]) (by kernel_rfl) (by simp) ?_
                  refine AllReadyH.cons rfl (fun K hK => ?_) AllReadyH.nil
                  go_simp
                  (go_at_call 51; refine (all_any y.lines 43 _ _ (HLY.out.never (And.left (by assumption))) (by decide) (by decide) (by omega)).mono ?_; rintro e wq ⟨rq, rfl, hcq, hrq⟩; obtain ⟨qa, qc, rfl, _, _, _⟩ := rdv_slice hrq; have hS2 := two_keep (by assumption) hcq)
                  try go_wp2_with fail
                  refine hK.out _ _ ?_ (fun hH => ?_)
                  · assumption
                  clear hK K
                  try simp only [Act.put, List.setIfInBounds_toArray, List.set_cons_zero, List.set_cons_succ]
                  refine' wpAnyH_take (i := 10) ?hi10 (by kernel_rfl) (by kernel_rfl) (by kernel_rfl) ?hQ10 (Or.inl ⟨?hw10, ?hy10⟩) (by assumption) ?_
                  case hi10 => (simp only [List.getElem?_toArray, List.getElem?_cons_succ, List.getElem?_cons_zero]; rfl)
                  case hQ10 => exact fun _ _ _ h => h
                  case hw10 => rfl
                  case hy10 => (intro w' hSw; (try dsimp only at hSw); go_simp; all_goals with_reducible rfl)
                  try simp only [Act.put, List.setIfInBounds_toArray, List.set_cons_zero, List.set_cons_succ]
                  refine wpAnyH_ready (rs := [11]) (by kernel_rfl) (by simp) ?_
                  refine AllReadyH.cons rfl (fun K hK => ?_) AllReadyH.nil
                  go_simp
                  refine hK.out _ _ (two_keep hH ((Chg.refl Never _).alloc _)) (fun hH2 => ?_)
                  clear hK K
                  try simp only [Act.put, List.setIfInBounds_toArray, List.set_cons_zero, List.set_cons_succ]
                  have hnq := (hn.never (Chg.refl Never _).drew).never hcq
                  have hyq : Dat.rd _ (fun k => Never k ∨ _ = some k) _ (⟨2, y.path, wholeR y.lines 43⟩ : Change) := ⟨_, rfl, hpy, hn.fresh hrq⟩
                  refine wpAnyH_ready (rs := [12]) (by kernel_rfl) (by simp) ?_
                  refine AllReadyH.cons rfl (fun K hK => ?_) AllReadyH.nil
                  refine step_push (by rfl) _ _ 51 (by rfl) elemOk_change (O := Never) (l := L) (y := ⟨2, y.path, wholeR y.lines 43⟩) (by rfl) (by rfl) (by simp) hnq.own hyq (fun _ h => h.elim) hLl ?_
                  intro v' wp hown2 hc2 hk2
                  have hn2 := hnq.step1 hown2 hc2 hk2
                  obtain ⟨oa2, on2, oc2, rfl⟩ := own_isSlice hn2.own
                  refine hK.out _ _ ⟨hn2.chg, hn2.chg.cellNever D0.out, hn2.chg.cellNever D1.out⟩ (fun _ => ?_)
                  clear hK K hnq hyq hown2 hc2 hk2 hH hH2 hS2 hcq hrq hn
                  try simp only [Act.put, List.setIfInBounds_toArray, List.set_cons_zero, List.set_cons_succ]
                  refine' wpAnyH_take (i := 13) ?hi13 (by kernel_rfl) (by kernel_rfl) (by kernel_rfl) ?hQ13 (Or.inl ⟨?hw13, ?hy13⟩) (by assumption) ?_
                  case hi13 => (simp only [List.getElem?_toArray, List.getElem?_cons_succ, List.getElem?_cons_zero]; rfl)
                  case hQ13 => exact fun _ _ _ h => h
                  case hw13 => rfl
                  case hy13 => (intro w' hSw; (try dsimp only at hSw); go_simp; all_goals with_reducible rfl)
                  try simp only [Act.put, List.setIfInBounds_toArray, List.set_cons_zero, List.set_cons_succ]
                  refine wpAnyH_done (by kernel_rfl) ?_ _
                  go_wp2_with fail
                  go_roundw
                  case rel => exact ⟨_, B.drop 1, L ++ [⟨2, y.path, wholeR y.lines 43⟩], hA, hsb, hn2, FA, FB.out.drop, by rw [List.length_append, hdb]; simp; omega, by rw [Hid, List.append_assoc, ← HG.out]; exact HL.out⟩
                  case measure => simp [sliceLen]; omega
                · have t2 : Op.bytesLess y.path.toList x.path.toList = false := by simpa [less] using l2
                  have HG := Lib.hid (diffG_both (n := n) HX.out HY.out l1 l2)
                  have HMK := Lib.hid (make_valid FX.out FY.out n0 n1)
                  clear a3 b3 l1 l2
                  go_wp2_with fail
                  go_quiet (fail)
                  generalize hqq : World.drewN wr _ = wr2
                  have hn := hqq ▸ hn.never ((Chg.refl Never wr).drewN _)
                  clear hqq
                  try clear c0 c1
                  try clear d0 d1
                  try have c0 := hn.chg.cellNever C0.out
                  try have c1 := hn.chg.cellNever C1.out
                  try have d0 := hn.chg.cellNever D0.out
                  try have d1 := hn.chg.cellNever D1.out
                  go_wp2_with fail
                  go_quiet (fail)
                  generalize hqq : World.drewN wr2 _ = wr3
                  have hn := hqq ▸ hn.never ((Chg.refl Never wr2).drewN _)
                  clear hqq
                  try clear c0 c1
                  try clear d0 d1
                  try have c0 := hn.chg.cellNever C0.out
                  try have c1 := hn.chg.cellNever C1.out
                  try have d0 := hn.chg.cellNever D0.out
                  try have d1 := hn.chg.cellNever D1.out
                  go_wp2_with fail
                  refine wp_region_held_drew (S := fun w' => Chg Never wL w' ∧ w'.cell? ⟨xb, xo + 1, none⟩ = some (.slice xa x.lines.length xcap) ∧ w'.cell? ⟨yb, yo + 1, none⟩ = some (.slice ya y.lines.length ycap)) (by kernel_rfl) ⟨hn.chg.drew, c1, d1⟩ (fun hH => ?_)
                  refine' wpAnyH_take (i := 0) ?hi0 (by kernel_rfl) (by kernel_rfl) (by kernel_rfl) ?hQ0 (Or.inl ⟨?hw0, ?hy0⟩) (by assumption) ?_
                  case hi0 => (simp only [List.getElem?_toArray, List.getElem?_cons_succ, List.getElem?_cons_zero]; rfl)
                  case hQ0 => exact fun _ _ _ h => h
                  case hw0 => rfl
                  case hy0 => (intro w' hSw; (try dsimp only at hSw); go_simp; all_goals with_reducible rfl)
                  try simp only [Act.put, List.setIfInBounds_toArray, List.set_cons_zero, List.set_cons_succ]
                  refine' wpAnyH_take (i := 1) ?hi1 (by kernel_rfl) (by kernel_rfl) (by kernel_rfl) ?hQ1 (Or.inl ⟨?hw1, ?hy1⟩) (by assumption) ?_
                  case hi1 => (simp only [List.getElem?_toArray, List.getElem?_cons_succ, List.getElem?_cons_zero]; rfl)
                  case hQ1 => exact fun _ _ _ h => h
                  case hw1 => rfl
                  case hy1 => (intro w' hSw; (try dsimp only at hSw); go_simp; all_goals with_reducible rfl)
                  try simp only [Act.put, List.setIfInBounds_toArray, List.set_cons_zero, List.set_cons_succ]
                  refine' wpAnyH_take (i := 2) ?hi2 (by kernel_rfl) (by kernel_rfl) (by kernel_rfl) ?hQ2 (Or.inl ⟨?hw2, ?hy2⟩) (by assumption) ?_
                  case hi2 => (simp only [List.getElem?_toArray, List.getElem?_cons_succ, List.getElem?_cons_zero]; rfl)
                  case hQ2 => exact fun _ _ _ h => h
                  case hw2 => rfl
                  case hy2 => (intro w' hSw; (try dsimp only at hSw); go_simp; all_goals with_reducible rfl)
                  try simp only [Act.put, List.setIfInBounds_toArray, List.set_cons_zero, List.set_cons_succ]
                  refine' wpAnyH_take (i := 3) ?hi3 (by kernel_rfl) (by kernel_rfl) (by kernel_rfl) ?hQ3 (Or.inl ⟨?hw3, ?hy3⟩) (by assumption) ?_
                  case hi3 => (simp only [List.getElem?_toArray, List.getElem?_cons_succ, List.getElem?_cons_zero]; rfl)
                  case hQ3 => exact fun _ _ _ h => h
                  case hw3 => rfl
                  case hy3 => (intro w' hSw; (try dsimp only at hSw); go_simp; all_goals with_reducible rfl)
                  try simp only [Act.put, List.setIfInBounds_toArray, List.set_cons_zero, List.set_cons_succ]
                  refine' wpAnyH_take (i := 4) ?hi4 (by kernel_rfl) (by kernel_rfl) (by kernel_rfl) ?hQ4 (Or.inl ⟨?hw4, ?hy4⟩) (by assumption) ?_
                  case hi4 => (simp only [List.getElem?_toArray, List.getElem?_cons_succ, List.getElem?_cons_zero]; rfl)
                  case hQ4 => exact fun _ _ _ h => h
                  case hw4 => rfl
                  case hy4 => (intro w' hSw; (try dsimp only at hSw); go_simp; all_goals with_reducible rfl)
                  try simp only [Act.put, List.setIfInBounds_toArray, List.set_cons_zero, List.set_cons_succ]
                  refine' wpAnyH_take (i := 5) ?hi5 (by kernel_rfl) (by kernel_rfl) (by kernel_rfl) ?hQ5 (Or.inl ⟨?hw5, ?hy5⟩) (by assumption) ?_
                  case hi5 => (simp only [List.getElem?_toArray, List.getElem?_cons_succ, List.getElem?_cons_zero]; rfl)
                  case hQ5 => exact fun _ _ _ h => h
                  case hw5 => rfl
                  case hy5 => (intro w' hSw; (try dsimp only at hSw); go_simp; all_goals with_reducible rfl)
                  try simp only [Act.put, List.setIfInBounds_toArray, List.set_cons_zero, List.set_cons_succ]
                  refine' wpAnyH_take (i := 6) ?hi6 (by kernel_rfl) (by kernel_rfl) (by kernel_rfl) ?hQ6 (Or.inl ⟨?hw6, ?hy6⟩) (by assumption) ?_
                  case hi6 => (simp only [List.getElem?_toArray, List.getElem?_cons_succ, List.getElem?_cons_zero]; rfl)
                  case hQ6 => exact fun _ _ _ h => h
                  case hw6 => rfl
                  case hy6 => (intro w' hSw; (try dsimp only at hSw); go_simp; all_goals with_reducible rfl)
                  try simp only [Act.put, List.setIfInBounds_toArray, List.set_cons_zero, List.set_cons_succ]
                  refine' wpAnyH_take (i := 7) ?hi7 (by kernel_rfl) (by kernel_rfl) (by kernel_rfl) ?hQ7 (Or.inl ⟨?hw7, ?hy7⟩) (by assumption) ?_
                  case hi7 => (simp only [List.getElem?_toArray, List.getElem?_cons_succ, List.getElem?_cons_zero]; rfl)
                  case hQ7 => exact fun _ _ _ h => h
                  case hw7 => rfl
                  case hy7 => (intro w' hSw; (try dsimp only at hSw); go_simp; all_goals with_reducible rfl)
                  try simp only [Act.put, List.setIfInBounds_toArray, List.set_cons_zero, List.set_cons_succ]
                  refine' wpAnyH_take (i := 8) ?hi8 (by kernel_rfl) (by kernel_rfl) (by kernel_rfl) ?hQ8 (Or.inl ⟨?hw8, ?hy8⟩) (by assumption) ?_
                  case hi8 => (simp only [List.getElem?_toArray, List.getElem?_cons_succ, List.getElem?_cons_zero]; rfl)
                  case hQ8 => exact fun _ _ _ h => h
                  case hw8 => rfl
                  case hy8 => (intro w' hSw; (try dsimp only at hSw); go_simp; all_goals with_reducible rfl)
                  try simp only [Act.put, List.setIfInBounds_toArray, List.set_cons_zero, List.set_cons_succ]
                  refine wpAnyH_ready (rs := [9]) (by kernel_rfl) (by simp) ?_
                  refine AllReadyH.cons rfl (fun K hK => ?_) AllReadyH.nil
                  go_simp
                  (go_at_call 52; refine (make_any x.lines y.lines n _ _ _ (HLX.out.never (And.left (by assumption))) (HLY.out.never (And.left (by assumption))) (by unfold I64; omega)).mono ?_; rintro e wq ⟨rq, rfl, hcq, hrq⟩; have hS2 := two_keep (by assumption) hcq)
                  try go_wp2_with fail
                  refine hK.out _ _ ?_ (fun hH => ?_)
                  · assumption
                  clear hK K
                  try simp only [Act.put, List.setIfInBounds_toArray, List.set_cons_zero, List.set_cons_succ]
                  rw [HMK.out.1, errV_zero]
                  rw [HMK.out.2] at hrq
                  obtain ⟨qa, qc, rfl, _, _, _⟩ := rdv_slice hrq
                  refine' wpAnyH_take (i := 10) ?hi10 (by kernel_rfl) (by kernel_rfl) (by kernel_rfl) ?hQ10 (Or.inl ⟨?hw10, ?hy10⟩) (by assumption) ?_
                  case hi10 => (simp only [List.getElem?_toArray, List.getElem?_cons_succ, List.getElem?_cons_zero]; rfl)
                  case hQ10 => exact fun _ _ _ h => h
                  case hw10 => rfl
                  case hy10 => (intro w' hSw; (try dsimp only at hSw); go_simp; all_goals with_reducible rfl)
                  try simp only [Act.put, List.setIfInBounds_toArray, List.set_cons_zero, List.set_cons_succ]
                  refine' wpAnyH_take (i := 11) ?hi11 (by kernel_rfl) (by kernel_rfl) (by kernel_rfl) ?hQ11 (Or.inl ⟨?hw11, ?hy11⟩) (by assumption) ?_
                  case hi11 => (simp only [List.getElem?_toArray, List.getElem?_cons_succ, List.getElem?_cons_zero]; rfl)
                  case hQ11 => exact fun _ _ _ h => h
                  case hw11 => rfl
                  case hy11 => (intro w' hSw; (try dsimp only at hSw); go_simp; all_goals with_reducible rfl)
                  try simp only [Act.put, List.setIfInBounds_toArray, List.set_cons_zero, List.set_cons_succ]
                  refine' wpAnyH_take (i := 12) ?hi12 (by kernel_rfl) (by kernel_rfl) (by kernel_rfl) ?hQ12 (Or.inl ⟨?hw12, ?hy12⟩) (by assumption) ?_
                  case hi12 => (simp only [List.getElem?_toArray, List.getElem?_cons_succ, List.getElem?_cons_zero]; rfl)
                  case hQ12 => exact fun _ _ _ h => h
                  case hw12 => rfl
                  case hy12 => (intro w' hSw; (try dsimp only at hSw); go_simp; all_goals with_reducible rfl)
                  try simp only [Act.put, List.setIfInBounds_toArray, List.set_cons_zero, List.set_cons_succ]
                  refine' wpAnyH_take (i := 13) ?hi13 (by kernel_rfl) (by kernel_rfl) (by kernel_rfl) ?hQ13 (Or.inl ⟨?hw13, ?hy13⟩) (by assumption) ?_
                  case hi13 => (simp only [List.getElem?_toArray, List.getElem?_cons_succ, List.getElem?_cons_zero]; rfl)
                  case hQ13 => exact fun _ _ _ h => h
                  case hw13 => rfl
                  case hy13 => (intro w' hSw; (try dsimp only at hSw); go_simp; all_goals with_reducible rfl)
                  try simp only [Act.put, List.setIfInBounds_toArray, List.set_cons_zero, List.set_cons_succ]
                  refine' wpAnyH_take (i := 14) ?hi14 (by kernel_rfl) (by kernel_rfl) (by kernel_rfl) ?hQ14 (Or.inl ⟨?hw14, ?hy14⟩) (by assumption) ?_
                  case hi14 => (simp only [List.getElem?_toArray, List.getElem?_cons_succ, List.getElem?_cons_zero]; rfl)
                  case hQ14 => exact fun _ _ _ h => h
                  case hw14 => rfl
                  case hy14 => (intro w' hSw; (try dsimp only at hSw); go_simp; all_goals with_reducible rfl)
                  try simp only [Act.put, List.setIfInBounds_toArray, List.set_cons_zero, List.set_cons_succ]
                  refine wpAnyH_done (by kernel_rfl) ?_ _
                  have hrr := hn.fresh hrq
                  have hn := (hn.never (Chg.refl Never _).drew).never hcq
                  clear hrq hcq c0 c1 d0 d1 hH hS2
                  have c0 := hn.chg.cellNever C0.out
                  by_cases hcut : cutOf (script x.lines y.lines) n = []
                  · have HCH := Lib.hid (chg_none (p := x.path) hcut)
                    rw [hcut] at hrr ⊢
                    clear hcut
                    go_wp2_with fail
                    go_quiet (fail)
                    go_wp2_with fail
                    go_roundw
                    case rel => exact ⟨A.drop 1, B.drop 1, L, hsa, hsb, hn.never ((Chg.refl Never _).drewN _), FA.out.drop, FB.out.drop, by omega, by rw [Hid, ← HL.out, HG.out, HCH.out]; rfl⟩
                    case measure => simp [sliceLen]; omega
                  · have HCH := Lib.hid (chg_some (p := x.path) hcut)
                    have hpos : 0 < (cutOf (script x.lines y.lines) n).length := List.length_pos_iff.2 hcut
                    clear hcut
                    have hyc : Dat.rd _ (fun k => Never k ∨ _ = some k) _ (⟨1, x.path, cutOf (script x.lines y.lines) n⟩ : Change) := ⟨_, rfl, hpx, hrr⟩
                    go_wp2_with (at_builtin; refine wpList_push (by rfl) _ _ 51 (by rfl) elemOk_change (O := Never) (l := L) (y := ⟨1, x.path, cutOf (script x.lines y.lines) n⟩) (by rfl) (by rfl) (by rfl) hn.own hyc (fun _ h => h.elim) hLl ?_; intro v' w9 hown2 hc2 hk2; have hn2 := hn.step1 hown2 hc2 hk2; clear hown2 hc2 hk2 hn hyc; obtain ⟨oa2, on2, oc2, rfl⟩ := own_isSlice hn2.own)
                    go_quiet (fail)
                    go_wp2_with fail
                    go_roundw
                    case rel => exact ⟨A.drop 1, B.drop 1, L ++ [⟨1, x.path, cutOf (script x.lines y.lines) n⟩], hsa, hsb, hn2.never ((Chg.refl Never _).drewN _), FA.out.drop, FB.out.drop, by rw [List.length_append]; simp; omega, by rw [Hid, List.append_assoc, ← HL.out, HG.out, HCH.out]⟩
                    case measure => simp [sliceLen]; omega
end Go.Proofs.YtibeddcebefbjaaDoor
namespace Go.Proofs.YtibeddcebefbjaaDoor
open Go.RowKit

set_option maxHeartbeats 4000000 in
set_option maxRecDepth 100000 in
theorem law_diffIs (a b : List File) (n : Int) (va vb : Value) (w : World) (ha : Rdv w Never va a) (hb : Rdv w Never vb b) (hn : I64 n) (m : Int) (hm : w.cell? ⟨1, 0, none⟩ = some (.int .i64 m)) (hg : w.cell? ⟨0, 0, none⟩ = some errT) :
    Calls Tryd.prog 5 #[va, vb, .int .i64 n] w fun e w' => e = .returned (.bool true) ∧ Chg Never w w' := by
  have hni := hn
  unfold I64 at hni
  by_cases z : (treeFault a).2 = 0
  · have z0 : ((treeFault a).2 == 0) = true := by simp [z]
    by_cases y : (treeFault b).2 = 0
    · by_cases hr : n < 0 ∨ 1000 < n
      · have HF := Lib.hid (diffFault_n z y hr)
        have HR := Lib.hid (diffR_bad (a := a) (b := b) (n := n) (by rw [HF.out]; decide))
        have Y := Lib.hid y
        clear z y
        rcases hr with hr | hr
        · go_enter Tryd.func5, Tryd.ntmps5
          go_wp2_with fail
          refine (refTree_any a _ _ ha).mono ?_
          rintro e w1 ⟨rfl, hw⟩
          go_wp2_with fail
          refine (refTree_any b _ _ (hb.never hw)).mono ?_
          rintro e w2 ⟨rfl, hcb⟩
          have hw := hw.trans hcb
          clear hcb
          rw [Y.out]
          go_wp2_with fail
          refine (diff_any a b n _ _ _ (ha.never hw) (hb.never hw) hn m (hw.cellNever hm)).mono ?_
          rintro e wd ⟨r, rfl, hcd, hr⟩
          have hw2 := hw.trans hcd
          rw [HF.out]
          go_wp2_with fail
          refine (error_any (1) (1) _ (hw2.cellNever hg)).mono ?_
          rintro e' wE ⟨rfl, hcE⟩
          rw [beq_self_eq_true]
          have hwant := (rdv_nil wE Never : Rdv wE Never (.slice none 0 0) ([] : List Change))
          go_wp2_with fail
          refine (patches_any _ _ _ _ _ (hr.never hcE) hwant).mono ?_
          rintro e wp ⟨rfl, hcp⟩
          rw [decide_eq_true HR.out]
          go_wp2_with fail
          go_ret
          exact ⟨rfl, (hw2.trans hcE).trans hcp⟩
        · have h0 : ¬ n < 0 := by omega
          go_enter Tryd.func5, Tryd.ntmps5
          go_wp2_with fail
          refine (refTree_any a _ _ ha).mono ?_
          rintro e w1 ⟨rfl, hw⟩
          go_wp2_with fail
          refine (refTree_any b _ _ (hb.never hw)).mono ?_
          rintro e w2 ⟨rfl, hcb⟩
          have hw := hw.trans hcb
          clear hcb
          rw [Y.out]
          go_wp2_with fail
          refine (diff_any a b n _ _ _ (ha.never hw) (hb.never hw) hn m (hw.cellNever hm)).mono ?_
          rintro e wd ⟨r, rfl, hcd, hr⟩
          have hw2 := hw.trans hcd
          rw [HF.out]
          go_wp2_with fail
          refine (error_any (1) (1) _ (hw2.cellNever hg)).mono ?_
          rintro e' wE ⟨rfl, hcE⟩
          rw [beq_self_eq_true]
          have hwant := (rdv_nil wE Never : Rdv wE Never (.slice none 0 0) ([] : List Change))
          go_wp2_with fail
          refine (patches_any _ _ _ _ _ (hr.never hcE) hwant).mono ?_
          rintro e wp ⟨rfl, hcp⟩
          rw [decide_eq_true HR.out]
          go_wp2_with fail
          go_ret
          exact ⟨rfl, (hw2.trans hcE).trans hcp⟩
      · have n0 : 0 ≤ n := by omega
        have n1 : n ≤ 1000 := by omega
        have h0 : ¬ n < 0 := by omega
        have h1 : ¬ 1000 < n := by omega
        have HF := Lib.hid (diffFault_0 z y n0 n1)
        have HR := Lib.hid (diffR_ok HF.out)
        have HS := Lib.hid (diff_same n (treeFault_zero z).2.2.1 (treeFault_zero y).2.2.1)
        have Y := Lib.hid y
        have Z := Lib.hid z
        clear z y hr
        go_enter Tryd.func5, Tryd.ntmps5
        go_wp2_with fail
        refine (refTree_any a _ _ ha).mono ?_
        rintro e w1 ⟨rfl, hw⟩
        go_wp2_with fail
        refine (refTree_any b _ _ (hb.never hw)).mono ?_
        rintro e w2 ⟨rfl, hcb⟩
        have hw := hw.trans hcb
        clear hcb
        rw [Y.out]
        go_wp2_with fail
        refine (refDiff_any a b n _ _ _ (ha.never hw) (hb.never hw) Z.out Y.out n0 n1).mono ?_
        rintro e w3 ⟨rw3, rfl, hc3, hr3⟩
        have hw := hw.trans hc3
        clear hc3
        go_wp2_with fail
        refine (diff_any a b n _ _ _ (ha.never hw) (hb.never hw) hn m (hw.cellNever hm)).mono ?_
        rintro e wd ⟨r, rfl, hcd, hr⟩
        have hw2 := hw.trans hcd
        rw [HF.out]
        go_wp2_with fail
        refine (error_any (0) (0) _ (hw2.cellNever hg)).mono ?_
        rintro e' wE ⟨rfl, hcE⟩
        rw [beq_self_eq_true]
        have hwant := (hr3.never hcd).never hcE
        go_wp2_with fail
        refine (patches_any _ _ _ _ _ (hr.never hcE) hwant).mono ?_
        rintro e wp ⟨rfl, hcp⟩
        rw [decide_eq_true (HR.out.trans HS.out.symm)]
        go_wp2_with fail
        go_ret
        exact ⟨rfl, (hw2.trans hcE).trans hcp⟩
    · have y0 : ((treeFault b).2 == 0) = false := by simp [y]
      have HF := Lib.hid (diffFault_b (n := n) z y)
      have HR := Lib.hid (diffR_bad (a := a) (b := b) (n := n) (by rw [HF.out]; exact y))
      clear z y
      go_enter Tryd.func5, Tryd.ntmps5
      go_wp2_with fail
      refine (refTree_any a _ _ ha).mono ?_
      rintro e w1 ⟨rfl, hw⟩
      go_wp2_with fail
      refine (refTree_any b _ _ (hb.never hw)).mono ?_
      rintro e w2 ⟨rfl, hcb⟩
      have hw := hw.trans hcb
      clear hcb
      go_wp2_with fail
      refine (diff_any a b n _ _ _ (ha.never hw) (hb.never hw) hn m (hw.cellNever hm)).mono ?_
      rintro e wd ⟨r, rfl, hcd, hr⟩
      have hw2 := hw.trans hcd
      rw [HF.out]
      go_wp2_with fail
      refine (error_any ((treeFault b).2) ((treeFault b).2) _ (hw2.cellNever hg)).mono ?_
      rintro e' wE ⟨rfl, hcE⟩
      rw [beq_self_eq_true]
      have hwant := (rdv_nil wE Never : Rdv wE Never (.slice none 0 0) ([] : List Change))
      go_wp2_with fail
      refine (patches_any _ _ _ _ _ (hr.never hcE) hwant).mono ?_
      rintro e wp ⟨rfl, hcp⟩
      rw [decide_eq_true HR.out]
      go_wp2_with fail
      go_ret
      exact ⟨rfl, (hw2.trans hcE).trans hcp⟩
  · have z0 : ((treeFault a).2 == 0) = false := by simp [z]
    have HF := Lib.hid (diffFault_a (b := b) (n := n) z)
    have HR := Lib.hid (diffR_bad (a := a) (b := b) (n := n) (by rw [HF.out]; exact z))
    clear z
    go_enter Tryd.func5, Tryd.ntmps5
    go_wp2_with fail
    refine (refTree_any a _ _ ha).mono ?_
    rintro e w1 ⟨rfl, hw⟩
    go_wp2_with fail
    refine (diff_any a b n _ _ _ (ha.never hw) (hb.never hw) hn m (hw.cellNever hm)).mono ?_
    rintro e wd ⟨r, rfl, hcd, hr⟩
    have hw2 := hw.trans hcd
    rw [HF.out]
    go_wp2_with fail
    refine (error_any ((treeFault a).2) ((treeFault a).2) _ (hw2.cellNever hg)).mono ?_
    rintro e' wE ⟨rfl, hcE⟩
    rw [beq_self_eq_true]
    have hwant := (rdv_nil wE Never : Rdv wE Never (.slice none 0 0) ([] : List Change))
    go_wp2_with fail
    refine (patches_any _ _ _ _ _ (hr.never hcE) hwant).mono ?_
    rintro e wp ⟨rfl, hcp⟩
    rw [decide_eq_true HR.out]
    go_wp2_with fail
    go_ret
    exact ⟨rfl, (hw2.trans hcE).trans hcp⟩
end Go.Proofs.YtibeddcebefbjaaDoor
namespace Go.Proofs.YtibeddcebefbjaaDoor.lawDiffIs
open Go.ChangeShapes Go.WideShapes Go.ChangeAt Go.RowKit

set_option maxRecDepth 100000 in
theorem contract (H : Type) (enc : TypeId × Value → H) (W : World) (base : Nat) (args : Array Value) (ds gs : List (DataW H)) (before : List MemPlace)
    (hval : ∀ (j : Nat) t v, Tryd.f5.params[j]? = some t → args[j]? = some v → Value.okWide Tryd.prog W .any base t v)
    (hW : DataW.Whole enc Tryd.prog Tryd.f5.params.toList Rows.diffIsSpec.vars false W args.toList ds gs before) (hk : Rows.uptoSmall H (ds ++ gs) = true) (hL : laidMetH Tryd.prog Rows.diffIsUptoRow.laid W) (hS : W.ShapedOpen Tryd.prog) :
    Calls Tryd.prog 5 args W fun e W' => ∃ v, e = .returned v ∧ Rows.diffIsSpec.post enc Tryd.prog Tryd.f5 false true false false W args v W' := by
  have hg := handle_of_laidTE hL
  obtain ⟨m, hm⟩ := maxlen_of hS
  have hW' := hW
  obtain ⟨p, q, hA0, hV, rfl, hfz, hnd⟩ := hW
  have hA : DataW.TrodAll enc Tryd.prog W 0 (fun _ => true) true Tryd.f5.params.toList args.toList ds p := hA0
  rw [Tryd.params5] at hA hval
  obtain ⟨v0, vs0, d0, ds0, p0, q0, hargs, rfl, rfl, h0, r0⟩ := trodAll_cons hA
  obtain ⟨v1, vs1, d1, ds1, p1, q1, rfl, rfl, rfl, h1, r1⟩ := trodAll_cons r0
  obtain ⟨v2, vs2, d2, ds2, p2, q2, rfl, rfl, rfl, h2, r2⟩ := trodAll_cons r1
  obtain ⟨rfl, rfl, rfl⟩ := trodAll_nil r2
  obtain rfl : args = #[v0, v1, v2] := by cases args; simp_all
  obtain ⟨a0, len0, cap0, rfl⟩ := okWide_slice Tryd.underlying34 (hval 0 34 v0 rfl rfl)
  obtain ⟨a1, len1, cap1, rfl⟩ := okWide_slice Tryd.underlying34 (hval 1 34 v1 rfl rfl)
  obtain ⟨u0, k0⟩ := h0
  obtain ⟨x0, hx0, hb0⟩ := opens_files _ _ _ _ _ _ _ _ _ _ k0
  obtain ⟨u1, k1⟩ := h1
  obtain ⟨x1, hx1, hb1⟩ := opens_files _ _ _ _ _ _ _ _ _ _ k1
  obtain ⟨x2, rfl, rfl, rfl, wx2⟩ := open_int Tryd.underlying3 (hval 2 3 v2 rfl rfl) h2
  have hx2 := i64_of_wf wx2
  refine (law_diffIs x0 x1 x2 _ _ W hx0 hx1 hx2 m hm hg).mono fun e W' he => ?_
  obtain ⟨he, hc⟩ := he
  subst he
  exact ⟨_, rfl, post_law hW' rfl rfl Tryd.underlying4 rfl laidOut (by decide +kernel) hc⟩

theorem reads (os : Os) {H : Type} (enc : TypeId × Value → H) : ∃ places, DataW.whole enc Tryd.prog ((laidWorldT os).forCall (fun _ _ => 0) ⟨#[], #[.slice none 0 0, .slice none 0 0, .int .i64 0], []⟩).memory Tryd.f5.params.toList Rows.diffIsSpec.vars false (#[.slice none 0 0, .slice none 0 0, .int .i64 0] : Array Value).toList 8 = some ([.nil, .nil, .lit (.int .i64 0)], [], places) :=
  ⟨[], by kernel_rfl⟩
set_option maxRecDepth 100000 in
theorem liftedUpto (os : Os) (started : os.Started) (H : Type) (enc : TypeId × Value → H) (F : Stop.Interp) :
    ReturnsInHanded {} Tryd.checked os 5 .any ((Rows.OpenSpec.upto Rows.diffIsSpec).preRow enc Tryd.prog Tryd.f5 Rows.diffIsUptoRow.domain false Rows.diffIsUptoRow.laid) (((Rows.OpenSpec.upto Rows.diffIsSpec).at F).post enc Tryd.prog Tryd.f5 false true false false) := by
  obtain ⟨places, hx⟩ := reads os enc
  refine returnsInHanded_of_row (C := Tryd.checked) (s := Rows.OpenSpec.upto Rows.diffIsSpec) own started (by kernel_rfl) Tryd.func5
    (witness_row_at (enc := enc) (C := Tryd.checked) false (laidWorldT os) #[.slice none 0 0, .slice none 0 0, .int .i64 0] rfl (by kernel_rfl) (by kernel_rfl) (by kernel_rfl)
      (OpenSpec.preRow_of_cond 8 hx (by kernel_rfl) (fun k hk => by cases hk; kernel_rfl) (by kernel_rfl) (laidWorldTE_met os _))) ?_
  intro W base args ds gs before hval hW _ hcond _ hL hS _
  exact contract H enc W base args ds gs before hval hW (hcond _ rfl) hL hS

theorem saidUpto : Rows.DiffIsUptoSaid :=
  OpenClaim.holds_of_cond 5 Tryd.f5 rfl rfl rfl rfl rfl rfl rfl ⟨rfl, rfl, rfl, rfl, rfl⟩ rfl rfl rfl rfl rfl (by kernel_rfl) Tryd.func5 (by kernel_rfl)
    (of_decide_eq_true (by kernel_rfl)) (by unfold Func.isWrapper; first | (rw [if_pos (by decide +kernel)]; kernel_rfl) | (rw [if_neg (by decide +kernel)]; exact ⟨rfl, rfl⟩))
    (fun os started H enc _ F => by rw [OpenClaim.pre_eq_preRow]; exact liftedUpto os started H enc F)

theorem plain (f : FuncId) (fn : Func) (hf : Tryd.pinned.checked.prog.funcNamed "handstitch/handstitchlaw2.DiffIs" = some f) (hfn : Tryd.pinned.checked.prog.funcs[f]? = some fn) :
    true = Tryd.pinned.checked.prog.looks [] ∧ ∀ (j : Nat) t, fn.params[j]? = some t → Tryd.pinned.checked.prog.wantsStandIn t = false := by
  obtain rfl : f = 5 := Option.some.inj ((show Tryd.prog.funcNamed "handstitch/handstitchlaw2.DiffIs" = some 5 by kernel_rfl).symm.trans hf) |>.symm
  obtain rfl : fn = Tryd.f5 := (Option.some.inj (Tryd.func5.symm.trans hfn)).symm
  refine ⟨by kernel_rfl, fun j t ht => ?_⟩
  rw [Tryd.params5] at ht
  have hm := Array.mem_of_getElem? ht
  simp only [List.mem_toArray, List.mem_cons, List.not_mem_nil, or_false] at hm
  clear ht
  repeat' (first | (rcases hm with rfl | hm) | subst hm)
  all_goals exact (show Tryd.prog.wantsStandIn _ = false by kernel_rfl)

theorem cardUpto : Rows.DiffIsUptoCardSaid :=
  Claim7.holds_tied_plain_at .later [] _ _ _ _ saidUpto (fun _ h => by cases h) (by kernel_rfl) (fun _ h => by cases h) diffIsUpto_row_tie rfl ⟨rfl, rfl⟩ (by kernel_rfl) rfl plain (by kernel_rfl)
end Go.Proofs.YtibeddcebefbjaaDoor.lawDiffIs
