/-
  PARTS: THE WALK of patch.Diff.; FROM TREE TO TREE, in plain Lean: what is found between two trees is a patch and leads from the one to the other; between a tree and itself there is nothing.; THE LAW PatchMakes, walked.; THE WALKS of algebra.two, Join, Inter.; WHAT WAS DONE LEADS FROM A TREE TO A TREE, in plain Lean.
-/
import Derived.Test.YteocmmejfnmjcaaGreatDoorPackAi9
import Derived.Test.YteocmmejfnmjcaaGreatDoorPackAi11
import Derived.Test.YteocmmejfnmjcaaGreatDoorPackAi6
import Derived.Test.YteocmmejfnmjcaaGreatDoorPackAi8
import Derived.Test.YteocmmejfnmjcaaGreatDoorPackAi5
import Derived.Deep.RegionHeld3
import Derived.BigQuiet
import Derived.Test.YteocmmejfnmjcaaGreatDoorPackAi12
namespace Go.Proofs.YteocmmejfnmjcaaGreatDoor
open Go.RowKit

def diffFault (a b : List File) (n : Int) : Int := if (treeFault a).2 ≠ 0 then (treeFault a).2 else if (treeFault b).2 ≠ 0 then (treeFault b).2 else if n < 0 ∨ 1000 < n then 1 else 0
def diffR (a b : List File) (n : Int) : List Change := if diffFault a b n = 0 then diffL n a b else []
theorem diffFault_a {a b : List File} {n : Int} (h : (treeFault a).2 ≠ 0) : diffFault a b n = (treeFault a).2 := if_pos h
theorem diffFault_b {a b : List File} {n : Int} (h : (treeFault a).2 = 0) (g : (treeFault b).2 ≠ 0) : diffFault a b n = (treeFault b).2 := by unfold diffFault; rw [if_neg (by rw [h]; decide), if_pos g]
theorem diffFault_n {a b : List File} {n : Int} (h : (treeFault a).2 = 0) (g : (treeFault b).2 = 0) (hn : n < 0 ∨ 1000 < n) : diffFault a b n = 1 := by unfold diffFault; rw [if_neg (by rw [h]; decide), if_neg (by rw [g]; decide), if_pos hn]
theorem diffFault_0 {a b : List File} {n : Int} (h : (treeFault a).2 = 0) (g : (treeFault b).2 = 0) (n0 : 0 ≤ n) (n1 : n ≤ 1000) : diffFault a b n = 0 := by unfold diffFault; rw [if_neg (by rw [h]; decide), if_neg (by rw [g]; decide), if_neg (by omega)]
theorem diffR_bad {a b : List File} {n : Int} (h : diffFault a b n ≠ 0) : diffR a b n = [] := if_neg h
theorem diffR_ok {a b : List File} {n : Int} (h : diffFault a b n = 0) : diffR a b n = diffL n a b := if_pos h
def sliceLen : Value → Nat
  | .slice _ n _ => n
  | _ => 0
theorem cons_of_get {α : Type} {l : List α} {x : α} (h : l[0]? = some x) : l = x :: l.drop 1 := by
  cases l with
  | nil => cases h
  | cons y r => simp at h; subst h; rfl
theorem diffG_take {n : Int} {x : File} {a b : List File} (hx : a[0]? = some x) (h : b = [] ∨ ∃ y, b[0]? = some y ∧ less x.path y.path = true) : diffL n a b = [⟨3, x.path, wholeR x.lines 45⟩] ++ diffL n (a.drop 1) b := by
  have e := cons_of_get hx
  generalize a.drop 1 = r at e ⊢
  subst e
  exact diffL_take (h.imp_right fun ⟨y, h1, h2⟩ => ⟨y, _, cons_of_get h1, h2⟩)
theorem diffG_put {n : Int} {y : File} {a b : List File} (hy : b[0]? = some y) (h : a = [] ∨ ∃ x, a[0]? = some x ∧ ¬ less x.path y.path = true ∧ less y.path x.path = true) : diffL n a b = [⟨2, y.path, wholeR y.lines 43⟩] ++ diffL n a (b.drop 1) := by
  have e := cons_of_get hy
  generalize b.drop 1 = r at e ⊢
  subst e
  exact diffL_put (h.imp_right fun ⟨x, h1, h2⟩ => ⟨x, _, cons_of_get h1, h2⟩)
theorem diffG_both {n : Int} {x y : File} {a b : List File} (hx : a[0]? = some x) (hy : b[0]? = some y) (h : ¬ less x.path y.path = true) (g : ¬ less y.path x.path = true) : diffL n a b = chg n x.path (some x.lines) (some y.lines) ++ diffL n (a.drop 1) (b.drop 1) := by
  have e := cons_of_get hx
  have e2 := cons_of_get hy
  generalize a.drop 1 = r at e ⊢
  generalize b.drop 1 = s at e2 ⊢
  subst e
  subst e2
  exact diffL_both h g
/-- the files of a tree are valid -/
def AllFine (a : List File) : Prop := ∀ f ∈ a, fileFault f = 0
theorem AllFine.get {a : List File} (h : AllFine a) {x : File} (hx : a[0]? = some x) : linesFault x.lines = 0 := fileFault_lines (h x (List.mem_of_getElem? hx))
theorem AllFine.drop {a : List File} (h : AllFine a) : AllFine (a.drop 1) := fun f hf => h f (List.mem_of_mem_drop hf)

def DiffPost (a b : List File) (n : Int) (w : World) (e : Ending) (w' : World) : Prop := ∃ r, e = .returned (.tuple #[r, errV (diffFault a b n)]) ∧ Chg Never w w' ∧ Rdv w' Never r (diffR a b n)
theorem diffPost_bad {a b : List File} {n k : Int} {w w' : World} (h : diffFault a b n = k) (hk : k ≠ 0) (hc : Chg Never w w') : DiffPost a b n w (.returned (.tuple #[.slice none 0 0, errV k])) w' :=
  ⟨_, by rw [h], hc, by rw [diffR_bad (by rw [h]; exact hk)]; exact rdv_nil _ _⟩
theorem diffPost_ok {a b : List File} {n : Int} {w w' : World} {r : Value} (h : diffFault a b n = 0) (hc : Chg Never w w') (hr : Rdv w' Never r (diffL n a b)) : DiffPost a b n w (.returned (.tuple #[r, .nilIface])) w' :=
  ⟨r, by rw [h, errV_zero], hc, by rw [diffR_ok h]; exact hr⟩
set_option maxHeartbeats 4000000 in
set_option maxRecDepth 100000 in
theorem diff_any (a b : List File) (n : Int) (va vb : Value) (w : World) (ha : Rdv w Never va a) (hb : Rdv w Never vb b) (hn : I64 n) (m : Int) (hm : w.cell? ⟨1, 0, none⟩ = some (.int .i64 m)) :
    Calls Tryz.prog 48 #[va, vb, .int .i64 n] w fun e w' => DiffPost a b n w e w' := by
  obtain ⟨a0, acap0, rfl, _, _, _⟩ := rdv_slice ha
  obtain ⟨b0, bcap0, rfl, _, _, _⟩ := rdv_slice hb
  have x0 : ∀ wx, (Instr.index 122 (.agg #[.slice a0 a.length acap0, .slice b0 b.length bcap0]) (.int .i64 0)).run Tryz.prog wx = .ok (.slice a0 a.length acap0) wx := fun _ => by kernel_rfl
  have x1 : ∀ wx, (Instr.index 122 (.agg #[.slice a0 a.length acap0, .slice b0 b.length bcap0]) (.int .i64 1)).run Tryz.prog wx = .ok (.slice b0 b.length bcap0) wx := fun _ => by kernel_rfl
  unfold I64 at hn
  go_enter Tryz.func48, Tryz.ntmps48
  go_wp2_with fail
  go_loopw [18] (fun i wL => ∃ k : Nat, k ≤ 2 ∧ i = .int .i64 k ∧ Chg Never w wL ∧ Hid ((1 ≤ k → (treeFault a).2 = 0) ∧ (2 ≤ k → (treeFault b).2 = 0))) (fun i _ => 2 - (intOf i).toNat)
  case atStart => exact ⟨0, by decide, rfl, Chg.refl _ _, by omega, by omega⟩
  case round =>
    rename World => wL
    obtain ⟨k, hk, rfl, hc, hF⟩ := hrel
    rcases Nat.lt_or_ge k 2 with hlt | hge
    · rcases Nat.eq_zero_or_pos k with rfl | hpos
      · go_wp2_with fail
        refine (tree_check_any a _ _ (ha.never hc) m (hc.cellNever hm)).mono ?_
        rintro e w2 ⟨rfl, hc2⟩
        have hc := hc.trans hc2
        clear hc2
        by_cases z : (treeFault a).2 = 0
        · have Z := Lib.hid z
          rw [z, errV_zero]
          clear z
          go_wp2_with fail
          go_roundw
          case rel => exact ⟨1, by decide, rfl, hc, fun _ => Z.out, by omega⟩
          case measure => simp [intOf]
        · rw [errV_pos z]
          have E := diffPost_bad (n := n) (w := w) (diffFault_a (b := b) (n := n) z) z hc
          rw [errV_pos z] at E
          clear z
          go_wp2_with fail
          go_ret2
          exact E
      · obtain rfl : k = 1 := by omega
        go_wp2_with fail
        refine (tree_check_any b _ _ (hb.never hc) m (hc.cellNever hm)).mono ?_
        rintro e w2 ⟨rfl, hc2⟩
        have hc := hc.trans hc2
        clear hc2
        by_cases z : (treeFault b).2 = 0
        · have Z := Lib.hid z
          rw [z, errV_zero]
          clear z
          go_wp2_with fail
          go_roundw
          case rel => exact ⟨2, by decide, rfl, hc, fun _ => hF.out.1 (by decide), fun _ => Z.out⟩
          case measure => simp [intOf]
        · rw [errV_pos z]
          have E := diffPost_bad (n := n) (w := w) (diffFault_b (n := n) (hF.out.1 (by decide)) z) z hc
          rw [errV_pos z] at E
          clear z
          go_wp2_with fail
          go_ret2
          exact E
    · obtain rfl : k = 2 := by omega
      have ta := hF.out.1 (by decide)
      have tb := hF.out.2 (by decide)
      clear hF x0 x1
      by_cases hr : n < 0 ∨ 1000 < n
      · have E := diffPost_bad (w := w) (diffFault_n ta tb hr) (by decide) hc
        clear ta tb
        rcases hr with hr | hr
        · go_wp2_with fail
          go_ret2
          exact E
        · have h0 : ¬ n < 0 := by omega
          go_wp2_with fail
          go_ret2
          exact E
      · have n0 : 0 ≤ n := by omega
        have n1 : n ≤ 1000 := by omega
        have EE : Hid (∀ (w' : World) (r : Value), Chg Never w w' → Rdv w' Never r (diffL n a b) → DiffPost a b n w (.returned (.tuple #[r, .nilIface])) w') := fun w' r h1 h2 => diffPost_ok (diffFault_0 ta tb n0 n1) h1 h2
        have FA := Lib.hid (show AllFine a from (treeFault_zero ta).2.1)
        have FB := Lib.hid (show AllFine b from (treeFault_zero tb).2.1)
        have la := (treeFault_zero ta).1
        have lb := (treeFault_zero tb).1
        have HA := Lib.hid (ha.never hc)
        have HB := Lib.hid (hb.never hc)
        clear ta tb hr ha hb
        have hn0 := ownN_nil (α := Change) 36 (Chg.refl Never wL)
        go_wp2_with fail
        go_loopw [0, 1, 12] (fun v u o wr => ∃ (A B : List File) (L : List Change), Rdv wL Never v A ∧ Rdv wL Never u B ∧ OwnN 36 wL wr o L ∧ Hid (AllFine A) ∧ Hid (AllFine B) ∧ A.length + B.length + L.length ≤ 16 ∧ Hid (L ++ diffL n A B = diffL n a b)) (fun v u _ _ => sliceLen v + sliceLen u)
        case atStart => exact ⟨a, b, [], HA.out, HB.out, hn0, FA, FB, by simp; omega, by unfold Hid; rw [List.nil_append]⟩
        case round =>
          clear hn0 la lb FA FB HA HB
          rename World => wr
          obtain ⟨A, B, L, hA, hB, hn, FA, FB, hlen, HL⟩ := hrel
          obtain ⟨oa, on, oc, rfl⟩ := own_isSlice hn.own
          obtain ⟨aa, acap, rfl, a1, a2, a3⟩ := rdv_slice hA
          obtain ⟨ba, bcap, rfl, b1, b2, b3⟩ := rdv_slice hB
          unfold maxLen at a2 b2
          have hLl : L.length ≤ 1000000000 := by omega
          rcases Nat.eq_zero_or_pos A.length with hA0 | hA0
          · obtain rfl : A = [] := List.eq_nil_of_length_eq_zero hA0
            clear a3
            rcases Nat.eq_zero_or_pos B.length with hB0 | hB0
            · obtain rfl : B = [] := List.eq_nil_of_length_eq_zero hB0
              have HLo := HL.out
              rw [diffL_nil, List.append_nil] at HLo
              have HLO := Lib.hid HLo
              clear HLo
              go_wp2_with fail
              go_ret2
              exact EE.out _ _ (hc.trans hn.chg) (by rw [← HLO.out]; exact hn.own.rdv.sub (fun _ _ h => h.elim))
            · obtain ⟨y, hy⟩ : ∃ y, B[0]? = some y := ⟨B[0], by simp [hB0]⟩
              obtain ⟨yb, yo, yv, rfl, _, _, d0, d1, hpy, hly⟩ := elems_file b3 hy
              simp only [Nat.zero_mul, Nat.add_zero] at d0 d1
              have HLY := Lib.hid hly
              have FY := Lib.hid (FB.out.get hy)
              have hyl := linesFault_len FY.out
              obtain ⟨ya, ycap, rfl, _, _, _⟩ := rdv_slice hly
              have D0 := Lib.hid d0
              have D1 := Lib.hid d1
              have d0 := hn.chg.cellNever d0
              have d1 := hn.chg.cellNever d1
              have HY := Lib.hid hy
              obtain ⟨sb, _, hrunB, _, hsb⟩ := slice_gen (P := Tryz.prog) (t := 22) (by kernel_rfl) size_file hB 1 B.length (by omega) (Nat.le_refl _)
              have hrunB := fun (wx : World) => hrunB 1 wx rfl rfl
              rw [List.take_of_length_le (Nat.le_of_eq List.length_drop)] at hsb
              have hdb : (B.drop 1).length = B.length - 1 := List.length_drop
              have q0 : ((B.length : Int) == 0) = false := beq_eq_false_iff_ne.2 (by omega)
              have q1 : decide ((B.length : Int) > 0) = true := by simp; omega
              clear hy hly
              have HG := Lib.hid (diffG_put (n := n) (a := []) HY.out (.inl rfl))
              clear b3
              go_wp2_with fail
              go_quiet (fail)
              generalize hqq : World.drewN wr _ = wr2
              have hn := hqq ▸ hn.never ((Chg.refl Never wr).drewN _)
              clear hqq
              try clear c0 c1
              try clear d0 d1
              try have c0 := hn.chg.cellNever C0.out
              try have c1 := hn.chg.cellNever C1.out
              try have d0 := hn.chg.cellNever D0.out
              try have d1 := hn.chg.cellNever D1.out
              go_wp2_with fail
              go_quiet (fail)
              generalize hqq : World.drewN wr2 _ = wr3
              have hn := hqq ▸ hn.never ((Chg.refl Never wr2).drewN _)
              clear hqq
              try clear c0 c1
              try clear d0 d1
              try have c0 := hn.chg.cellNever C0.out
              try have c1 := hn.chg.cellNever C1.out
              try have d0 := hn.chg.cellNever D0.out
              try have d1 := hn.chg.cellNever D1.out
              go_wp2_with fail
              refine wp_region_held_drew (S := fun w' => Chg Never wL w' ∧ w'.cell? ⟨yb, yo, none⟩ = some (.string y.path) ∧ w'.cell? ⟨yb, yo + 1, none⟩ = some (.slice ya y.lines.length ycap)) (by kernel_rfl) ⟨hn.chg.drew, hn.chg.cellNever D0.out, hn.chg.cellNever D1.out⟩ (fun hH => ?_)
              refine' wpAnyH_take (i := 0) ?hi0 (by kernel_rfl) (by kernel_rfl) (by kernel_rfl) ?hQ0 (Or.inl ⟨?hw0, ?hy0⟩) (by assumption) ?_
              case hi0 => (simp only [List.getElem?_toArray, List.getElem?_cons_succ, List.getElem?_cons_zero]; rfl)
              case hQ0 => exact fun _ _ _ h => h
              case hw0 => rfl
              case hy0 => (intro w' hSw; (try dsimp only at hSw); go_simp; all_goals with_reducible rfl)
              try simp only [Act.put, List.setIfInBounds_toArray, List.set_cons_zero, List.set_cons_succ]
              refine' wpAnyH_take (i := 1) ?hi1 (by kernel_rfl) (by kernel_rfl) (by kernel_rfl) ?hQ1 (Or.inl ⟨?hw1, ?hy1⟩) (by assumption) ?_
              case hi1 => (simp only [List.getElem?_toArray, List.getElem?_cons_succ, List.getElem?_cons_zero]; rfl)
              case hQ1 => exact fun _ _ _ h => h
              case hw1 => rfl
              case hy1 => (intro w' hSw; (try dsimp only at hSw); go_simp; all_goals with_reducible rfl)
              try simp only [Act.put, List.setIfInBounds_toArray, List.set_cons_zero, List.set_cons_succ]
              refine' wpAnyH_take (i := 2) ?hi2 (by kernel_rfl) (by kernel_rfl) (by kernel_rfl) ?hQ2 (Or.inl ⟨?hw2, ?hy2⟩) (by assumption) ?_
              case hi2 => (simp only [List.getElem?_toArray, List.getElem?_cons_succ, List.getElem?_cons_zero]; rfl)
              case hQ2 => exact fun _ _ _ h => h
              case hw2 => rfl
              case hy2 => (intro w' hSw; (try dsimp only at hSw); go_simp; all_goals with_reducible rfl)
              try simp only [Act.put, List.setIfInBounds_toArray, List.set_cons_zero, List.set_cons_succ]
              refine' wpAnyH_take (i := 3) ?hi3 (by kernel_rfl) (by kernel_rfl) (by kernel_rfl) ?hQ3 (Or.inl ⟨?hw3, ?hy3⟩) (by assumption) ?_
              case hi3 => (simp only [List.getElem?_toArray, List.getElem?_cons_succ, List.getElem?_cons_zero]; rfl)
              case hQ3 => exact fun _ _ _ h => h
              case hw3 => rfl
              case hy3 => (intro w' hSw; (try dsimp only at hSw); go_simp; all_goals with_reducible rfl)
              try simp only [Act.put, List.setIfInBounds_toArray, List.set_cons_zero, List.set_cons_succ]
              refine' wpAnyH_take (i := 4) ?hi4 (by kernel_rfl) (by kernel_rfl) (by kernel_rfl) ?hQ4 (Or.inl ⟨?hw4, ?hy4⟩) (by assumption) ?_
              case hi4 => (simp only [List.getElem?_toArray, List.getElem?_cons_succ, List.getElem?_cons_zero]; rfl)
              case hQ4 => exact fun _ _ _ h => h
              case hw4 => rfl
              case hy4 => (intro w' hSw; (try dsimp only at hSw); go_simp; all_goals with_reducible rfl)
              try simp only [Act.put, List.setIfInBounds_toArray, List.set_cons_zero, List.set_cons_succ]
              refine' wpAnyH_take (i := 5) ?hi5 (by kernel_rfl) (by kernel_rfl) (by kernel_rfl) ?hQ5 (Or.inl ⟨?hw5, ?hy5⟩) (by assumption) ?_
              case hi5 => (simp only [List.getElem?_toArray, List.getElem?_cons_succ, List.getElem?_cons_zero]; rfl)
              case hQ5 => exact fun _ _ _ h => h
              case hw5 => rfl
              case hy5 => (intro w' hSw; (try dsimp only at hSw); go_simp; all_goals with_reducible rfl)
              try simp only [Act.put, List.setIfInBounds_toArray, List.set_cons_zero, List.set_cons_succ]
              refine' wpAnyH_take (i := 6) ?hi6 (by kernel_rfl) (by kernel_rfl) (by kernel_rfl) ?hQ6 (Or.inl ⟨?hw6, ?hy6⟩) (by assumption) ?_
              case hi6 => (simp only [List.getElem?_toArray, List.getElem?_cons_succ, List.getElem?_cons_zero]; rfl)
              case hQ6 => exact fun _ _ _ h => h
              case hw6 => rfl
              case hy6 => (intro w' hSw; (try dsimp only at hSw); go_simp; all_goals with_reducible rfl)
              try simp only [Act.put, List.setIfInBounds_toArray, List.set_cons_zero, List.set_cons_succ]
              refine' wpAnyH_take (i := 7) ?hi7 (by kernel_rfl) (by kernel_rfl) (by kernel_rfl) ?hQ7 (Or.inl ⟨?hw7, ?hy7⟩) (by assumption) ?_
              case hi7 => (simp only [List.getElem?_toArray, List.getElem?_cons_succ, List.getElem?_cons_zero]; rfl)
              case hQ7 => exact fun _ _ _ h => h
              case hw7 => rfl
              case hy7 => (intro w' hSw; (try dsimp only at hSw); go_simp; all_goals with_reducible rfl)
              try simp only [Act.put, List.setIfInBounds_toArray, List.set_cons_zero, List.set_cons_succ]
              refine' wpAnyH_take (i := 8) ?hi8 (by kernel_rfl) (by kernel_rfl) (by kernel_rfl) ?hQ8 (Or.inl ⟨?hw8, ?hy8⟩) (by assumption) ?_
              case hi8 => (simp only [List.getElem?_toArray, List.getElem?_cons_succ, List.getElem?_cons_zero]; rfl)
              case hQ8 => exact fun _ _ _ h => h
              case hw8 => rfl
              case hy8 => (intro w' hSw; (try dsimp only at hSw); go_simp; all_goals with_reducible rfl)
              try simp only [Act.put, List.setIfInBounds_toArray, List.set_cons_zero, List.set_cons_succ]
              refine wpAnyH_ready (rs := [9]) (by kernel_rfl) (by simp) ?_
              refine AllReadyH.cons rfl (fun K hK => ?_) AllReadyH.nil
              go_simp
              (go_at_call 71; refine (all_any y.lines 43 _ _ (HLY.out.never (And.left (by assumption))) (by decide) (by decide) (by omega)).mono ?_; rintro e wq ⟨rq, rfl, hcq, hrq⟩; obtain ⟨qa, qc, rfl, _, _, _⟩ := rdv_slice hrq; have hS2 := two_keep (by assumption) hcq)
              try go_wp2_with fail
              refine hK.out _ _ ?_ (fun hH => ?_)
              · assumption
              clear hK K
              try simp only [Act.put, List.setIfInBounds_toArray, List.set_cons_zero, List.set_cons_succ]
              refine' wpAnyH_take (i := 10) ?hi10 (by kernel_rfl) (by kernel_rfl) (by kernel_rfl) ?hQ10 (Or.inl ⟨?hw10, ?hy10⟩) (by assumption) ?_
              case hi10 => (simp only [List.getElem?_toArray, List.getElem?_cons_succ, List.getElem?_cons_zero]; rfl)
              case hQ10 => exact fun _ _ _ h => h
              case hw10 => rfl
              case hy10 => (intro w' hSw; (try dsimp only at hSw); go_simp; all_goals with_reducible rfl)
              try simp only [Act.put, List.setIfInBounds_toArray, List.set_cons_zero, List.set_cons_succ]
              refine wpAnyH_ready (rs := [11]) (by kernel_rfl) (by simp) ?_
              refine AllReadyH.cons rfl (fun K hK => ?_) AllReadyH.nil
              go_simp
              refine hK.out _ _ (two_keep hH ((Chg.refl Never _).alloc _)) (fun hH2 => ?_)
              clear hK K
              try simp only [Act.put, List.setIfInBounds_toArray, List.set_cons_zero, List.set_cons_succ]
              have hnq := (hn.never (Chg.refl Never _).drew).never hcq
              have hyq : Dat.rd _ (fun k => Never k ∨ _ = some k) _ (⟨2, y.path, wholeR y.lines 43⟩ : Change) := ⟨_, rfl, hpy, hn.fresh hrq⟩
              refine wpAnyH_ready (rs := [12]) (by kernel_rfl) (by simp) ?_
              refine AllReadyH.cons rfl (fun K hK => ?_) AllReadyH.nil
              refine step_push (by rfl) _ _ 23 (by rfl) elemOk_change (O := Never) (l := L) (y := ⟨2, y.path, wholeR y.lines 43⟩) (by rfl) (by rfl) (by simp) hnq.own hyq (fun _ h => h.elim) hLl ?_
              intro v' wp hown2 hc2 hk2
              have hn2 := hnq.step1 hown2 hc2 hk2
              obtain ⟨oa2, on2, oc2, rfl⟩ := own_isSlice hn2.own
              refine hK.out _ _ ⟨hn2.chg, hn2.chg.cellNever D0.out, hn2.chg.cellNever D1.out⟩ (fun _ => ?_)
              clear hK K hnq hyq hown2 hc2 hk2 hH hH2 hS2 hcq hrq hn
              try simp only [Act.put, List.setIfInBounds_toArray, List.set_cons_zero, List.set_cons_succ]
              refine' wpAnyH_take (i := 13) ?hi13 (by kernel_rfl) (by kernel_rfl) (by kernel_rfl) ?hQ13 (Or.inl ⟨?hw13, ?hy13⟩) (by assumption) ?_
              case hi13 => (simp only [List.getElem?_toArray, List.getElem?_cons_succ, List.getElem?_cons_zero]; rfl)
              case hQ13 => exact fun _ _ _ h => h
              case hw13 => rfl
              case hy13 => (intro w' hSw; (try dsimp only at hSw); go_simp; all_goals with_reducible rfl)
              try simp only [Act.put, List.setIfInBounds_toArray, List.set_cons_zero, List.set_cons_succ]
              refine wpAnyH_done (by kernel_rfl) ?_ _
              go_wp2_with fail
              go_roundw
              case rel => exact ⟨_, B.drop 1, L ++ [⟨2, y.path, wholeR y.lines 43⟩], hA, hsb, hn2, FA, FB.out.drop, by rw [List.length_append, hdb]; simp; omega, by rw [Hid, List.append_assoc, ← HG.out]; exact HL.out⟩
              case measure => simp [sliceLen]; omega
          · obtain ⟨x, hx⟩ : ∃ x, A[0]? = some x := ⟨A[0], by simp [hA0]⟩
            obtain ⟨xb, xo, xv, rfl, _, _, c0, c1, hpx, hlx⟩ := elems_file a3 hx
            simp only [Nat.zero_mul, Nat.add_zero] at c0 c1
            have HLX := Lib.hid hlx
            have FX := Lib.hid (FA.out.get hx)
            have hxl := linesFault_len FX.out
            obtain ⟨xa, xcap, rfl, _, _, _⟩ := rdv_slice hlx
            have C0 := Lib.hid c0
            have C1 := Lib.hid c1
            have c0 := hn.chg.cellNever c0
            have c1 := hn.chg.cellNever c1
            have HX := Lib.hid hx
            obtain ⟨sa, _, hrunA, _, hsa⟩ := slice_gen (P := Tryz.prog) (t := 22) (by kernel_rfl) size_file hA 1 A.length (by omega) (Nat.le_refl _)
            have hrunA := fun (wx : World) => hrunA 1 wx rfl rfl
            rw [List.take_of_length_le (Nat.le_of_eq List.length_drop)] at hsa
            have hda : (A.drop 1).length = A.length - 1 := List.length_drop
            have p0 : ((A.length : Int) == 0) = false := beq_eq_false_iff_ne.2 (by omega)
            have p1 : decide ((A.length : Int) > 0) = true := by simp; omega
            clear hx hlx
            rcases Nat.eq_zero_or_pos B.length with hB0 | hB0
            · obtain rfl : B = [] := List.eq_nil_of_length_eq_zero hB0
              have HG := Lib.hid (diffG_take (n := n) (b := []) HX.out (.inl rfl))
              clear b3 a3
              go_wp2_with fail
              go_quiet (fail)
              generalize hqq : World.drewN wr _ = wr2
              have hn := hqq ▸ hn.never ((Chg.refl Never wr).drewN _)
              clear hqq
              try clear c0 c1
              try clear d0 d1
              try have c0 := hn.chg.cellNever C0.out
              try have c1 := hn.chg.cellNever C1.out
              try have d0 := hn.chg.cellNever D0.out
              try have d1 := hn.chg.cellNever D1.out
              go_wp2_with fail
              refine wp_region_held_drew (S := fun w' => Chg Never wL w' ∧ w'.cell? ⟨xb, xo, none⟩ = some (.string x.path) ∧ w'.cell? ⟨xb, xo + 1, none⟩ = some (.slice xa x.lines.length xcap)) (by kernel_rfl) ⟨hn.chg.drew, hn.chg.cellNever C0.out, hn.chg.cellNever C1.out⟩ (fun hH => ?_)
              refine' wpAnyH_take (i := 0) ?hi0 (by kernel_rfl) (by kernel_rfl) (by kernel_rfl) ?hQ0 (Or.inl ⟨?hw0, ?hy0⟩) (by assumption) ?_
              case hi0 => (simp only [List.getElem?_toArray, List.getElem?_cons_succ, List.getElem?_cons_zero]; rfl)
              case hQ0 => exact fun _ _ _ h => h
              case hw0 => rfl
              case hy0 => (intro w' hSw; (try dsimp only at hSw); go_simp; all_goals with_reducible rfl)
              try simp only [Act.put, List.setIfInBounds_toArray, List.set_cons_zero, List.set_cons_succ]
              refine' wpAnyH_take (i := 1) ?hi1 (by kernel_rfl) (by kernel_rfl) (by kernel_rfl) ?hQ1 (Or.inl ⟨?hw1, ?hy1⟩) (by assumption) ?_
              case hi1 => (simp only [List.getElem?_toArray, List.getElem?_cons_succ, List.getElem?_cons_zero]; rfl)
              case hQ1 => exact fun _ _ _ h => h
              case hw1 => rfl
              case hy1 => (intro w' hSw; (try dsimp only at hSw); go_simp; all_goals with_reducible rfl)
              try simp only [Act.put, List.setIfInBounds_toArray, List.set_cons_zero, List.set_cons_succ]
              refine' wpAnyH_take (i := 2) ?hi2 (by kernel_rfl) (by kernel_rfl) (by kernel_rfl) ?hQ2 (Or.inl ⟨?hw2, ?hy2⟩) (by assumption) ?_
              case hi2 => (simp only [List.getElem?_toArray, List.getElem?_cons_succ, List.getElem?_cons_zero]; rfl)
              case hQ2 => exact fun _ _ _ h => h
              case hw2 => rfl
              case hy2 => (intro w' hSw; (try dsimp only at hSw); go_simp; all_goals with_reducible rfl)
              try simp only [Act.put, List.setIfInBounds_toArray, List.set_cons_zero, List.set_cons_succ]
              refine' wpAnyH_take (i := 3) ?hi3 (by kernel_rfl) (by kernel_rfl) (by kernel_rfl) ?hQ3 (Or.inl ⟨?hw3, ?hy3⟩) (by assumption) ?_
              case hi3 => (simp only [List.getElem?_toArray, List.getElem?_cons_succ, List.getElem?_cons_zero]; rfl)
              case hQ3 => exact fun _ _ _ h => h
              case hw3 => rfl
              case hy3 => (intro w' hSw; (try dsimp only at hSw); go_simp; all_goals with_reducible rfl)
              try simp only [Act.put, List.setIfInBounds_toArray, List.set_cons_zero, List.set_cons_succ]
              refine' wpAnyH_take (i := 4) ?hi4 (by kernel_rfl) (by kernel_rfl) (by kernel_rfl) ?hQ4 (Or.inl ⟨?hw4, ?hy4⟩) (by assumption) ?_
              case hi4 => (simp only [List.getElem?_toArray, List.getElem?_cons_succ, List.getElem?_cons_zero]; rfl)
              case hQ4 => exact fun _ _ _ h => h
              case hw4 => rfl
              case hy4 => (intro w' hSw; (try dsimp only at hSw); go_simp; all_goals with_reducible rfl)
              try simp only [Act.put, List.setIfInBounds_toArray, List.set_cons_zero, List.set_cons_succ]
              refine' wpAnyH_take (i := 5) ?hi5 (by kernel_rfl) (by kernel_rfl) (by kernel_rfl) ?hQ5 (Or.inl ⟨?hw5, ?hy5⟩) (by assumption) ?_
              case hi5 => (simp only [List.getElem?_toArray, List.getElem?_cons_succ, List.getElem?_cons_zero]; rfl)
              case hQ5 => exact fun _ _ _ h => h
              case hw5 => rfl
              case hy5 => (intro w' hSw; (try dsimp only at hSw); go_simp; all_goals with_reducible rfl)
              try simp only [Act.put, List.setIfInBounds_toArray, List.set_cons_zero, List.set_cons_succ]
              refine' wpAnyH_take (i := 6) ?hi6 (by kernel_rfl) (by kernel_rfl) (by kernel_rfl) ?hQ6 (Or.inl ⟨?hw6, ?hy6⟩) (by assumption) ?_
              case hi6 => (simp only [List.getElem?_toArray, List.getElem?_cons_succ, List.getElem?_cons_zero]; rfl)
              case hQ6 => exact fun _ _ _ h => h
              case hw6 => rfl
              case hy6 => (intro w' hSw; (try dsimp only at hSw); go_simp; all_goals with_reducible rfl)
              try simp only [Act.put, List.setIfInBounds_toArray, List.set_cons_zero, List.set_cons_succ]
              refine' wpAnyH_take (i := 7) ?hi7 (by kernel_rfl) (by kernel_rfl) (by kernel_rfl) ?hQ7 (Or.inl ⟨?hw7, ?hy7⟩) (by assumption) ?_
              case hi7 => (simp only [List.getElem?_toArray, List.getElem?_cons_succ, List.getElem?_cons_zero]; rfl)
              case hQ7 => exact fun _ _ _ h => h
              case hw7 => rfl
              case hy7 => (intro w' hSw; (try dsimp only at hSw); go_simp; all_goals with_reducible rfl)
              try simp only [Act.put, List.setIfInBounds_toArray, List.set_cons_zero, List.set_cons_succ]
              refine' wpAnyH_take (i := 8) ?hi8 (by kernel_rfl) (by kernel_rfl) (by kernel_rfl) ?hQ8 (Or.inl ⟨?hw8, ?hy8⟩) (by assumption) ?_
              case hi8 => (simp only [List.getElem?_toArray, List.getElem?_cons_succ, List.getElem?_cons_zero]; rfl)
              case hQ8 => exact fun _ _ _ h => h
              case hw8 => rfl
              case hy8 => (intro w' hSw; (try dsimp only at hSw); go_simp; all_goals with_reducible rfl)
              try simp only [Act.put, List.setIfInBounds_toArray, List.set_cons_zero, List.set_cons_succ]
              refine wpAnyH_ready (rs := [9]) (by kernel_rfl) (by simp) ?_
              refine AllReadyH.cons rfl (fun K hK => ?_) AllReadyH.nil
              go_simp
              (go_at_call 71; refine (all_any x.lines 45 _ _ (HLX.out.never (And.left (by assumption))) (by decide) (by decide) (by omega)).mono ?_; rintro e wq ⟨rq, rfl, hcq, hrq⟩; obtain ⟨qa, qc, rfl, _, _, _⟩ := rdv_slice hrq; have hS2 := two_keep (by assumption) hcq)
              try go_wp2_with fail
              refine hK.out _ _ ?_ (fun hH => ?_)
              · assumption
              clear hK K
              try simp only [Act.put, List.setIfInBounds_toArray, List.set_cons_zero, List.set_cons_succ]
              refine' wpAnyH_take (i := 10) ?hi10 (by kernel_rfl) (by kernel_rfl) (by kernel_rfl) ?hQ10 (Or.inl ⟨?hw10, ?hy10⟩) (by assumption) ?_
              case hi10 => (simp only [List.getElem?_toArray, List.getElem?_cons_succ, List.getElem?_cons_zero]; rfl)
              case hQ10 => exact fun _ _ _ h => h
              case hw10 => rfl
              case hy10 => (intro w' hSw; (try dsimp only at hSw); go_simp; all_goals with_reducible rfl)
              try simp only [Act.put, List.setIfInBounds_toArray, List.set_cons_zero, List.set_cons_succ]
              refine wpAnyH_ready (rs := [11]) (by kernel_rfl) (by simp) ?_
              refine AllReadyH.cons rfl (fun K hK => ?_) AllReadyH.nil
              go_simp
              refine hK.out _ _ (two_keep hH ((Chg.refl Never _).alloc _)) (fun hH2 => ?_)
              clear hK K
              try simp only [Act.put, List.setIfInBounds_toArray, List.set_cons_zero, List.set_cons_succ]
              have hnq := (hn.never (Chg.refl Never _).drew).never hcq
              have hyq : Dat.rd _ (fun k => Never k ∨ _ = some k) _ (⟨3, x.path, wholeR x.lines 45⟩ : Change) := ⟨_, rfl, hpx, hn.fresh hrq⟩
              refine wpAnyH_ready (rs := [12]) (by kernel_rfl) (by simp) ?_
              refine AllReadyH.cons rfl (fun K hK => ?_) AllReadyH.nil
              refine step_push (by rfl) _ _ 23 (by rfl) elemOk_change (O := Never) (l := L) (y := ⟨3, x.path, wholeR x.lines 45⟩) (by rfl) (by rfl) (by simp) hnq.own hyq (fun _ h => h.elim) hLl ?_
              intro v' wp hown2 hc2 hk2
              have hn2 := hnq.step1 hown2 hc2 hk2
              obtain ⟨oa2, on2, oc2, rfl⟩ := own_isSlice hn2.own
              refine hK.out _ _ ⟨hn2.chg, hn2.chg.cellNever C0.out, hn2.chg.cellNever C1.out⟩ (fun _ => ?_)
              clear hK K hnq hyq hown2 hc2 hk2 hH hH2 hS2 hcq hrq hn
              try simp only [Act.put, List.setIfInBounds_toArray, List.set_cons_zero, List.set_cons_succ]
              refine' wpAnyH_take (i := 13) ?hi13 (by kernel_rfl) (by kernel_rfl) (by kernel_rfl) ?hQ13 (Or.inl ⟨?hw13, ?hy13⟩) (by assumption) ?_
              case hi13 => (simp only [List.getElem?_toArray, List.getElem?_cons_succ, List.getElem?_cons_zero]; rfl)
              case hQ13 => exact fun _ _ _ h => h
              case hw13 => rfl
              case hy13 => (intro w' hSw; (try dsimp only at hSw); go_simp; all_goals with_reducible rfl)
              try simp only [Act.put, List.setIfInBounds_toArray, List.set_cons_zero, List.set_cons_succ]
              refine wpAnyH_done (by kernel_rfl) ?_ _
              go_wp2_with fail
              go_roundw
              case rel => exact ⟨A.drop 1, _, L ++ [⟨3, x.path, wholeR x.lines 45⟩], hsa, hB, hn2, FA.out.drop, FB, by rw [List.length_append, hda]; simp; omega, by rw [Hid, List.append_assoc, ← HG.out]; exact HL.out⟩
              case measure => simp [sliceLen]; omega
            · obtain ⟨y, hy⟩ : ∃ y, B[0]? = some y := ⟨B[0], by simp [hB0]⟩
              obtain ⟨yb, yo, yv, rfl, _, _, d0, d1, hpy, hly⟩ := elems_file b3 hy
              simp only [Nat.zero_mul, Nat.add_zero] at d0 d1
              have HLY := Lib.hid hly
              have FY := Lib.hid (FB.out.get hy)
              have hyl := linesFault_len FY.out
              obtain ⟨ya, ycap, rfl, _, _, _⟩ := rdv_slice hly
              have D0 := Lib.hid d0
              have D1 := Lib.hid d1
              have d0 := hn.chg.cellNever d0
              have d1 := hn.chg.cellNever d1
              have HY := Lib.hid hy
              obtain ⟨sb, _, hrunB, _, hsb⟩ := slice_gen (P := Tryz.prog) (t := 22) (by kernel_rfl) size_file hB 1 B.length (by omega) (Nat.le_refl _)
              have hrunB := fun (wx : World) => hrunB 1 wx rfl rfl
              rw [List.take_of_length_le (Nat.le_of_eq List.length_drop)] at hsb
              have hdb : (B.drop 1).length = B.length - 1 := List.length_drop
              have q0 : ((B.length : Int) == 0) = false := beq_eq_false_iff_ne.2 (by omega)
              have q1 : decide ((B.length : Int) > 0) = true := by simp; omega
              clear hy hly
              by_cases l1 : less x.path y.path = true
              · have t1 : Op.bytesLess x.path.toList y.path.toList = true := l1
                have HG := Lib.hid (diffG_take (n := n) HX.out (.inr ⟨y, HY.out, l1⟩))
                clear a3 b3 l1
                go_wp2_with fail
                go_quiet (fail)
                generalize hqq : World.drewN wr _ = wr2
                have hn := hqq ▸ hn.never ((Chg.refl Never wr).drewN _)
                clear hqq
                try clear c0 c1
                try clear d0 d1
                try have c0 := hn.chg.cellNever C0.out
                try have c1 := hn.chg.cellNever C1.out
                try have d0 := hn.chg.cellNever D0.out
                try have d1 := hn.chg.cellNever D1.out
                go_wp2_with fail
                refine wp_region_held_drew (S := fun w' => Chg Never wL w' ∧ w'.cell? ⟨xb, xo, none⟩ = some (.string x.path) ∧ w'.cell? ⟨xb, xo + 1, none⟩ = some (.slice xa x.lines.length xcap)) (by kernel_rfl) ⟨hn.chg.drew, hn.chg.cellNever C0.out, hn.chg.cellNever C1.out⟩ (fun hH => ?_)
                refine' wpAnyH_take (i := 0) ?hi0 (by kernel_rfl) (by kernel_rfl) (by kernel_rfl) ?hQ0 (Or.inl ⟨?hw0, ?hy0⟩) (by assumption) ?_
                case hi0 => (simp only [List.getElem?_toArray, List.getElem?_cons_succ, List.getElem?_cons_zero]; rfl)
                case hQ0 => exact fun _ _ _ h => h
                case hw0 => rfl
                case hy0 => (intro w' hSw; (try dsimp only at hSw); go_simp; all_goals with_reducible rfl)
                try simp only [Act.put, List.setIfInBounds_toArray, List.set_cons_zero, List.set_cons_succ]
                refine' wpAnyH_take (i := 1) ?hi1 (by kernel_rfl) (by kernel_rfl) (by kernel_rfl) ?hQ1 (Or.inl ⟨?hw1, ?hy1⟩) (by assumption) ?_
                case hi1 => (simp only [List.getElem?_toArray, List.getElem?_cons_succ, List.getElem?_cons_zero]; rfl)
                case hQ1 => exact fun _ _ _ h => h
                case hw1 => rfl
                case hy1 => (intro w' hSw; (try dsimp only at hSw); go_simp; all_goals with_reducible rfl)
                try simp only [Act.put, List.setIfInBounds_toArray, List.set_cons_zero, List.set_cons_succ]
                refine' wpAnyH_take (i := 2) ?hi2 (by kernel_rfl) (by kernel_rfl) (by kernel_rfl) ?hQ2 (Or.inl ⟨?hw2, ?hy2⟩) (by assumption) ?_
                case hi2 => (simp only [List.getElem?_toArray, List.getElem?_cons_succ, List.getElem?_cons_zero]; rfl)
                case hQ2 => exact fun _ _ _ h => h
                case hw2 => rfl
                case hy2 => (intro w' hSw; (try dsimp only at hSw); go_simp; all_goals with_reducible rfl)
                try simp only [Act.put, List.setIfInBounds_toArray, List.set_cons_zero, List.set_cons_succ]
                refine' wpAnyH_take (i := 3) ?hi3 (by kernel_rfl) (by kernel_rfl) (by kernel_rfl) ?hQ3 (Or.inl ⟨?hw3, ?hy3⟩) (by assumption) ?_
                case hi3 => (simp only [List.getElem?_toArray, List.getElem?_cons_succ, List.getElem?_cons_zero]; rfl)
                case hQ3 => exact fun _ _ _ h => h
                case hw3 => rfl
                case hy3 => (intro w' hSw; (try dsimp only at hSw); go_simp; all_goals with_reducible rfl)
                try simp only [Act.put, List.setIfInBounds_toArray, List.set_cons_zero, List.set_cons_succ]
                refine' wpAnyH_take (i := 4) ?hi4 (by kernel_rfl) (by kernel_rfl) (by kernel_rfl) ?hQ4 (Or.inl ⟨?hw4, ?hy4⟩) (by assumption) ?_
                case hi4 => (simp only [List.getElem?_toArray, List.getElem?_cons_succ, List.getElem?_cons_zero]; rfl)
                case hQ4 => exact fun _ _ _ h => h
                case hw4 => rfl
                case hy4 => (intro w' hSw; (try dsimp only at hSw); go_simp; all_goals with_reducible rfl)
                try simp only [Act.put, List.setIfInBounds_toArray, List.set_cons_zero, List.set_cons_succ]
                refine' wpAnyH_take (i := 5) ?hi5 (by kernel_rfl) (by kernel_rfl) (by kernel_rfl) ?hQ5 (Or.inl ⟨?hw5, ?hy5⟩) (by assumption) ?_
                case hi5 => (simp only [List.getElem?_toArray, List.getElem?_cons_succ, List.getElem?_cons_zero]; rfl)
                case hQ5 => exact fun _ _ _ h => h
                case hw5 => rfl
                case hy5 => (intro w' hSw; (try dsimp only at hSw); go_simp; all_goals with_reducible rfl)
                try simp only [Act.put, List.setIfInBounds_toArray, List.set_cons_zero, List.set_cons_succ]
                refine' wpAnyH_take (i := 6) ?hi6 (by kernel_rfl) (by kernel_rfl) (by kernel_rfl) ?hQ6 (Or.inl ⟨?hw6, ?hy6⟩) (by assumption) ?_
                case hi6 => (simp only [List.getElem?_toArray, List.getElem?_cons_succ, List.getElem?_cons_zero]; rfl)
                case hQ6 => exact fun _ _ _ h => h
                case hw6 => rfl
                case hy6 => (intro w' hSw; (try dsimp only at hSw); go_simp; all_goals with_reducible rfl)
                try simp only [Act.put, List.setIfInBounds_toArray, List.set_cons_zero, List.set_cons_succ]
                refine' wpAnyH_take (i := 7) ?hi7 (by kernel_rfl) (by kernel_rfl) (by kernel_rfl) ?hQ7 (Or.inl ⟨?hw7, ?hy7⟩) (by assumption) ?_
                case hi7 => (simp only [List.getElem?_toArray, List.getElem?_cons_succ, List.getElem?_cons_zero]; rfl)
                case hQ7 => exact fun _ _ _ h => h
                case hw7 => rfl
                case hy7 => (intro w' hSw; (try dsimp only at hSw); go_simp; all_goals with_reducible rfl)
                try simp only [Act.put, List.setIfInBounds_toArray, List.set_cons_zero, List.set_cons_succ]
                refine' wpAnyH_take (i := 8) ?hi8 (by kernel_rfl) (by kernel_rfl) (by kernel_rfl) ?hQ8 (Or.inl ⟨?hw8, ?hy8⟩) (by assumption) ?_
                case hi8 => (simp only [List.getElem?_toArray, List.getElem?_cons_succ, List.getElem?_cons_zero]; rfl)
                case hQ8 => exact fun _ _ _ h => h
                case hw8 => rfl
                case hy8 => (intro w' hSw; (try dsimp only at hSw); go_simp; all_goals with_reducible rfl)
                try simp only [Act.put, List.setIfInBounds_toArray, List.set_cons_zero, List.set_cons_succ]
                refine wpAnyH_ready (rs := [9]) (by kernel_rfl) (by simp) ?_
                refine AllReadyH.cons rfl (fun K hK => ?_) AllReadyH.nil
                go_simp
                (go_at_call 71; refine (all_any x.lines 45 _ _ (HLX.out.never (And.left (by assumption))) (by decide) (by decide) (by omega)).mono ?_; rintro e wq ⟨rq, rfl, hcq, hrq⟩; obtain ⟨qa, qc, rfl, _, _, _⟩ := rdv_slice hrq; have hS2 := two_keep (by assumption) hcq)
                try go_wp2_with fail
                refine hK.out _ _ ?_ (fun hH => ?_)
                · assumption
                clear hK K
                try simp only [Act.put, List.setIfInBounds_toArray, List.set_cons_zero, List.set_cons_succ]
                refine' wpAnyH_take (i := 10) ?hi10 (by kernel_rfl) (by kernel_rfl) (by kernel_rfl) ?hQ10 (Or.inl ⟨?hw10, ?hy10⟩) (by assumption) ?_
                case hi10 => (simp only [List.getElem?_toArray, List.getElem?_cons_succ, List.getElem?_cons_zero]; rfl)
                case hQ10 => exact fun _ _ _ h => h
                case hw10 => rfl
                case hy10 => (intro w' hSw; (try dsimp only at hSw); go_simp; all_goals with_reducible rfl)
                try simp only [Act.put, List.setIfInBounds_toArray, List.set_cons_zero, List.set_cons_succ]
                refine wpAnyH_ready (rs := [11]) (by kernel_rfl) (by simp) ?_
                refine AllReadyH.cons rfl (fun K hK => ?_) AllReadyH.nil
                go_simp
                refine hK.out _ _ (two_keep hH ((Chg.refl Never _).alloc _)) (fun hH2 => ?_)
                clear hK K
                try simp only [Act.put, List.setIfInBounds_toArray, List.set_cons_zero, List.set_cons_succ]
                have hnq := (hn.never (Chg.refl Never _).drew).never hcq
                have hyq : Dat.rd _ (fun k => Never k ∨ _ = some k) _ (⟨3, x.path, wholeR x.lines 45⟩ : Change) := ⟨_, rfl, hpx, hn.fresh hrq⟩
                refine wpAnyH_ready (rs := [12]) (by kernel_rfl) (by simp) ?_
                refine AllReadyH.cons rfl (fun K hK => ?_) AllReadyH.nil
                refine step_push (by rfl) _ _ 23 (by rfl) elemOk_change (O := Never) (l := L) (y := ⟨3, x.path, wholeR x.lines 45⟩) (by rfl) (by rfl) (by simp) hnq.own hyq (fun _ h => h.elim) hLl ?_
                intro v' wp hown2 hc2 hk2
                have hn2 := hnq.step1 hown2 hc2 hk2
                obtain ⟨oa2, on2, oc2, rfl⟩ := own_isSlice hn2.own
                refine hK.out _ _ ⟨hn2.chg, hn2.chg.cellNever C0.out, hn2.chg.cellNever C1.out⟩ (fun _ => ?_)
                clear hK K hnq hyq hown2 hc2 hk2 hH hH2 hS2 hcq hrq hn
                try simp only [Act.put, List.setIfInBounds_toArray, List.set_cons_zero, List.set_cons_succ]
                refine' wpAnyH_take (i := 13) ?hi13 (by kernel_rfl) (by kernel_rfl) (by kernel_rfl) ?hQ13 (Or.inl ⟨?hw13, ?hy13⟩) (by assumption) ?_
                case hi13 => (simp only [List.getElem?_toArray, List.getElem?_cons_succ, List.getElem?_cons_zero]; rfl)
                case hQ13 => exact fun _ _ _ h => h
                case hw13 => rfl
                case hy13 => (intro w' hSw; (try dsimp only at hSw); go_simp; all_goals with_reducible rfl)
                try simp only [Act.put, List.setIfInBounds_toArray, List.set_cons_zero, List.set_cons_succ]
                refine wpAnyH_done (by kernel_rfl) ?_ _
                go_wp2_with fail
                go_roundw
                case rel => exact ⟨A.drop 1, _, L ++ [⟨3, x.path, wholeR x.lines 45⟩], hsa, hB, hn2, FA.out.drop, FB, by rw [List.length_append, hda]; simp; omega, by rw [Hid, List.append_assoc, ← HG.out]; exact HL.out⟩
                case measure => simp [sliceLen]; omega
              · have t1 : Op.bytesLess x.path.toList y.path.toList = false := by simpa [less] using l1
                by_cases l2 : less y.path x.path = true
                · have t2 : Op.bytesLess y.path.toList x.path.toList = true := l2
                  have HG := Lib.hid (diffG_put (n := n) HY.out (.inr ⟨x, HX.out, l1, l2⟩))
                  clear a3 b3 l1 l2
                  go_wp2_with fail
                  go_quiet (fail)
                  generalize hqq : World.drewN wr _ = wr2
                  have hn := hqq ▸ hn.never ((Chg.refl Never wr).drewN _)
                  clear hqq
                  try clear c0 c1
                  try clear d0 d1
                  try have c0 := hn.chg.cellNever C0.out
                  try have c1 := hn.chg.cellNever C1.out
                  try have d0 := hn.chg.cellNever D0.out
                  try have d1 := hn.chg.cellNever D1.out
                  go_wp2_with fail
                  go_quiet (fail)
                  generalize hqq : World.drewN wr2 _ = wr3
                  have hn := hqq ▸ hn.never ((Chg.refl Never wr2).drewN _)
                  clear hqq
                  try clear c0 c1
                  try clear d0 d1
                  try have c0 := hn.chg.cellNever C0.out
                  try have c1 := hn.chg.cellNever C1.out
                  try have d0 := hn.chg.cellNever D0.out
                  try have d1 := hn.chg.cellNever D1.out
                  go_wp2_with fail
                  refine wp_region_held_drew (S := fun w' => Chg Never wL w' ∧ w'.cell? ⟨yb, yo, none⟩ = some (.string y.path) ∧ w'.cell? ⟨yb, yo + 1, none⟩ = some (.slice ya y.lines.length ycap)) (by kernel_rfl) ⟨hn.chg.drew, hn.chg.cellNever D0.out, hn.chg.cellNever D1.out⟩ (fun hH => ?_)
                  refine' wpAnyH_take (i := 0) ?hi0 (by kernel_rfl) (by kernel_rfl) (by kernel_rfl) ?hQ0 (Or.inl ⟨?hw0, ?hy0⟩) (by assumption) ?_
                  case hi0 => (simp only [List.getElem?_toArray, List.getElem?_cons_succ, List.getElem?_cons_zero]; rfl)
                  case hQ0 => exact fun _ _ _ h => h
                  case hw0 => rfl
                  case hy0 => (intro w' hSw; (try dsimp only at hSw); go_simp; all_goals with_reducible rfl)
                  try simp only [Act.put, List.setIfInBounds_toArray, List.set_cons_zero, List.set_cons_succ]
                  refine' wpAnyH_take (i := 1) ?hi1 (by kernel_rfl) (by kernel_rfl) (by kernel_rfl) ?hQ1 (Or.inl ⟨?hw1, ?hy1⟩) (by assumption) ?_
                  case hi1 => (simp only [List.getElem?_toArray, List.getElem?_cons_succ, List.getElem?_cons_zero]; rfl)
                  case hQ1 => exact fun _ _ _ h => h
                  case hw1 => rfl
                  case hy1 => (intro w' hSw; (try dsimp only at hSw); go_simp; all_goals with_reducible rfl)
                  try simp only [Act.put, List.setIfInBounds_toArray, List.set_cons_zero, List.set_cons_succ]
                  refine' wpAnyH_take (i := 2) ?hi2 (by kernel_rfl) (by kernel_rfl) (by kernel_rfl) ?hQ2 (Or.inl ⟨?hw2, ?hy2⟩) (by assumption) ?_
                  case hi2 => (simp only [List.getElem?_toArray, List.getElem?_cons_succ, List.getElem?_cons_zero]; rfl)
                  case hQ2 => exact fun _ _ _ h => h
                  case hw2 => rfl
                  case hy2 => (intro w' hSw; (try dsimp only at hSw); go_simp; all_goals with_reducible rfl)
                  try simp only [Act.put, List.setIfInBounds_toArray, List.set_cons_zero, List.set_cons_succ]
                  refine' wpAnyH_take (i := 3) ?hi3 (by kernel_rfl) (by kernel_rfl) (by kernel_rfl) ?hQ3 (Or.inl ⟨?hw3, ?hy3⟩) (by assumption) ?_
                  case hi3 => (simp only [List.getElem?_toArray, List.getElem?_cons_succ, List.getElem?_cons_zero]; rfl)
                  case hQ3 => exact fun _ _ _ h => h
                  case hw3 => rfl
                  case hy3 => (intro w' hSw; (try dsimp only at hSw); go_simp; all_goals with_reducible rfl)
                  try simp only [Act.put, List.setIfInBounds_toArray, List.set_cons_zero, List.set_cons_succ]
                  refine' wpAnyH_take (i := 4) ?hi4 (by kernel_rfl) (by kernel_rfl) (by kernel_rfl) ?hQ4 (Or.inl ⟨?hw4, ?hy4⟩) (by assumption) ?_
                  case hi4 => (simp only [List.getElem?_toArray, List.getElem?_cons_succ, List.getElem?_cons_zero]; rfl)
                  case hQ4 => exact fun _ _ _ h => h
                  case hw4 => rfl
                  case hy4 => (intro w' hSw; (try dsimp only at hSw); go_simp; all_goals with_reducible rfl)
                  try simp only [Act.put, List.setIfInBounds_toArray, List.set_cons_zero, List.set_cons_succ]
                  refine' wpAnyH_take (i := 5) ?hi5 (by kernel_rfl) (by kernel_rfl) (by kernel_rfl) ?hQ5 (Or.inl ⟨?hw5, ?hy5⟩) (by assumption) ?_
                  case hi5 => (simp only [List.getElem?_toArray, List.getElem?_cons_succ, List.getElem?_cons_zero]; rfl)
                  case hQ5 => exact fun _ _ _ h => h
                  case hw5 => rfl
                  case hy5 => (intro w' hSw; (try dsimp only at hSw); go_simp; all_goals with_reducible rfl)
                  try simp only [Act.put, List.setIfInBounds_toArray, List.set_cons_zero, List.set_cons_succ]
                  refine' wpAnyH_take (i := 6) ?hi6 (by kernel_rfl) (by kernel_rfl) (by kernel_rfl) ?hQ6 (Or.inl ⟨?hw6, ?hy6⟩) (by assumption) ?_
                  case hi6 => (simp only [List.getElem?_toArray, List.getElem?_cons_succ, List.getElem?_cons_zero]; rfl)
                  case hQ6 => exact fun _ _ _ h => h
                  case hw6 => rfl
                  case hy6 => (intro w' hSw; (try dsimp only at hSw); go_simp; all_goals with_reducible rfl)
                  try simp only [Act.put, List.setIfInBounds_toArray, List.set_cons_zero, List.set_cons_succ]
                  refine' wpAnyH_take (i := 7) ?hi7 (by kernel_rfl) (by kernel_rfl) (by kernel_rfl) ?hQ7 (Or.inl ⟨?hw7, ?hy7⟩) (by assumption) ?_
                  case hi7 => (simp only [List.getElem?_toArray, List.getElem?_cons_succ, List.getElem?_cons_zero]; rfl)
                  case hQ7 => exact fun _ _ _ h => h
                  case hw7 => rfl
                  case hy7 => (intro w' hSw; (try dsimp only at hSw); go_simp; all_goals with_reducible rfl)
                  try simp only [Act.put, List.setIfInBounds_toArray, List.set_cons_zero, List.set_cons_succ]
                  refine' wpAnyH_take (i := 8) ?hi8 (by kernel_rfl) (by kernel_rfl) (by kernel_rfl) ?hQ8 (Or.inl ⟨?hw8, ?hy8⟩) (by assumption) ?_
                  case hi8 => (simp only [List.getElem?_toArray, List.getElem?_cons_succ, List.getElem?_cons_zero]; rfl)
                  case hQ8 => exact fun _ _ _ h => h
                  case hw8 => rfl
                  case hy8 => (intro w' hSw; (try dsimp only at hSw); go_simp; all_goals with_reducible rfl)
                  try simp only [Act.put, List.setIfInBounds_toArray, List.set_cons_zero, List.set_cons_succ]
                  refine wpAnyH_ready (rs := [9]) (by kernel_rfl) (by simp) ?_
                  refine AllReadyH.cons rfl (fun K hK => ?_) AllReadyH.nil
                  go_simp
                  (go_at_call 71; refine (all_any y.lines 43 _ _ (HLY.out.never (And.left (by assumption))) (by decide) (by decide) (by omega)).mono ?_; rintro e wq ⟨rq, rfl, hcq, hrq⟩; obtain ⟨qa, qc, rfl, _, _, _⟩ := rdv_slice hrq; have hS2 := two_keep (by assumption) hcq)
                  try go_wp2_with fail
                  refine hK.out _ _ ?_ (fun hH => ?_)
                  · assumption
                  clear hK K
                  try simp only [Act.put, List.setIfInBounds_toArray, List.set_cons_zero, List.set_cons_succ]
                  refine' wpAnyH_take (i := 10) ?hi10 (by kernel_rfl) (by kernel_rfl) (by kernel_rfl) ?hQ10 (Or.inl ⟨?hw10, ?hy10⟩) (by assumption) ?_
                  case hi10 => (simp only [List.getElem?_toArray, List.getElem?_cons_succ, List.getElem?_cons_zero]; rfl)
                  case hQ10 => exact fun _ _ _ h => h
                  case hw10 => rfl
                  case hy10 => (intro w' hSw; (try dsimp only at hSw); go_simp; all_goals with_reducible rfl)
                  try simp only [Act.put, List.setIfInBounds_toArray, List.set_cons_zero, List.set_cons_succ]
                  refine wpAnyH_ready (rs := [11]) (by kernel_rfl) (by simp) ?_
                  refine AllReadyH.cons rfl (fun K hK => ?_) AllReadyH.nil
                  go_simp
                  refine hK.out _ _ (two_keep hH ((Chg.refl Never _).alloc _)) (fun hH2 => ?_)
                  clear hK K
                  try simp only [Act.put, List.setIfInBounds_toArray, List.set_cons_zero, List.set_cons_succ]
                  have hnq := (hn.never (Chg.refl Never _).drew).never hcq
                  have hyq : Dat.rd _ (fun k => Never k ∨ _ = some k) _ (⟨2, y.path, wholeR y.lines 43⟩ : Change) := ⟨_, rfl, hpy, hn.fresh hrq⟩
                  refine wpAnyH_ready (rs := [12]) (by kernel_rfl) (by simp) ?_
                  refine AllReadyH.cons rfl (fun K hK => ?_) AllReadyH.nil
                  refine step_push (by rfl) _ _ 23 (by rfl) elemOk_change (O := Never) (l := L) (y := ⟨2, y.path, wholeR y.lines 43⟩) (by rfl) (by rfl) (by simp) hnq.own hyq (fun _ h => h.elim) hLl ?_
                  intro v' wp hown2 hc2 hk2
                  have hn2 := hnq.step1 hown2 hc2 hk2
                  obtain ⟨oa2, on2, oc2, rfl⟩ := own_isSlice hn2.own
                  refine hK.out _ _ ⟨hn2.chg, hn2.chg.cellNever D0.out, hn2.chg.cellNever D1.out⟩ (fun _ => ?_)
                  clear hK K hnq hyq hown2 hc2 hk2 hH hH2 hS2 hcq hrq hn
                  try simp only [Act.put, List.setIfInBounds_toArray, List.set_cons_zero, List.set_cons_succ]
                  refine' wpAnyH_take (i := 13) ?hi13 (by kernel_rfl) (by kernel_rfl) (by kernel_rfl) ?hQ13 (Or.inl ⟨?hw13, ?hy13⟩) (by assumption) ?_
                  case hi13 => (simp only [List.getElem?_toArray, List.getElem?_cons_succ, List.getElem?_cons_zero]; rfl)
                  case hQ13 => exact fun _ _ _ h => h
                  case hw13 => rfl
                  case hy13 => (intro w' hSw; (try dsimp only at hSw); go_simp; all_goals with_reducible rfl)
                  try simp only [Act.put, List.setIfInBounds_toArray, List.set_cons_zero, List.set_cons_succ]
                  refine wpAnyH_done (by kernel_rfl) ?_ _
                  go_wp2_with fail
                  go_roundw
                  case rel => exact ⟨_, B.drop 1, L ++ [⟨2, y.path, wholeR y.lines 43⟩], hA, hsb, hn2, FA, FB.out.drop, by rw [List.length_append, hdb]; simp; omega, by rw [Hid, List.append_assoc, ← HG.out]; exact HL.out⟩
                  case measure => simp [sliceLen]; omega
                · have t2 : Op.bytesLess y.path.toList x.path.toList = false := by simpa [less] using l2
                  have HG := Lib.hid (diffG_both (n := n) HX.out HY.out l1 l2)
                  have HMK := Lib.hid (make_valid FX.out FY.out n0 n1)
                  clear a3 b3 l1 l2
                  go_wp2_with fail
                  go_quiet (fail)
                  generalize hqq : World.drewN wr _ = wr2
                  have hn := hqq ▸ hn.never ((Chg.refl Never wr).drewN _)
                  clear hqq
                  try clear c0 c1
                  try clear d0 d1
                  try have c0 := hn.chg.cellNever C0.out
                  try have c1 := hn.chg.cellNever C1.out
                  try have d0 := hn.chg.cellNever D0.out
                  try have d1 := hn.chg.cellNever D1.out
                  go_wp2_with fail
                  go_quiet (fail)
                  generalize hqq : World.drewN wr2 _ = wr3
                  have hn := hqq ▸ hn.never ((Chg.refl Never wr2).drewN _)
                  clear hqq
                  try clear c0 c1
                  try clear d0 d1
                  try have c0 := hn.chg.cellNever C0.out
                  try have c1 := hn.chg.cellNever C1.out
                  try have d0 := hn.chg.cellNever D0.out
                  try have d1 := hn.chg.cellNever D1.out
                  go_wp2_with fail
                  refine wp_region_held_drew (S := fun w' => Chg Never wL w' ∧ w'.cell? ⟨xb, xo + 1, none⟩ = some (.slice xa x.lines.length xcap) ∧ w'.cell? ⟨yb, yo + 1, none⟩ = some (.slice ya y.lines.length ycap)) (by kernel_rfl) ⟨hn.chg.drew, c1, d1⟩ (fun hH => ?_)
                  refine' wpAnyH_take (i := 0) ?hi0 (by kernel_rfl) (by kernel_rfl) (by kernel_rfl) ?hQ0 (Or.inl ⟨?hw0, ?hy0⟩) (by assumption) ?_
                  case hi0 => (simp only [List.getElem?_toArray, List.getElem?_cons_succ, List.getElem?_cons_zero]; rfl)
                  case hQ0 => exact fun _ _ _ h => h
                  case hw0 => rfl
                  case hy0 => (intro w' hSw; (try dsimp only at hSw); go_simp; all_goals with_reducible rfl)
                  try simp only [Act.put, List.setIfInBounds_toArray, List.set_cons_zero, List.set_cons_succ]
                  refine' wpAnyH_take (i := 1) ?hi1 (by kernel_rfl) (by kernel_rfl) (by kernel_rfl) ?hQ1 (Or.inl ⟨?hw1, ?hy1⟩) (by assumption) ?_
                  case hi1 => (simp only [List.getElem?_toArray, List.getElem?_cons_succ, List.getElem?_cons_zero]; rfl)
                  case hQ1 => exact fun _ _ _ h => h
                  case hw1 => rfl
                  case hy1 => (intro w' hSw; (try dsimp only at hSw); go_simp; all_goals with_reducible rfl)
                  try simp only [Act.put, List.setIfInBounds_toArray, List.set_cons_zero, List.set_cons_succ]
                  refine' wpAnyH_take (i := 2) ?hi2 (by kernel_rfl) (by kernel_rfl) (by kernel_rfl) ?hQ2 (Or.inl ⟨?hw2, ?hy2⟩) (by assumption) ?_
                  case hi2 => (simp only [List.getElem?_toArray, List.getElem?_cons_succ, List.getElem?_cons_zero]; rfl)
                  case hQ2 => exact fun _ _ _ h => h
                  case hw2 => rfl
                  case hy2 => (intro w' hSw; (try dsimp only at hSw); go_simp; all_goals with_reducible rfl)
                  try simp only [Act.put, List.setIfInBounds_toArray, List.set_cons_zero, List.set_cons_succ]
                  refine' wpAnyH_take (i := 3) ?hi3 (by kernel_rfl) (by kernel_rfl) (by kernel_rfl) ?hQ3 (Or.inl ⟨?hw3, ?hy3⟩) (by assumption) ?_
                  case hi3 => (simp only [List.getElem?_toArray, List.getElem?_cons_succ, List.getElem?_cons_zero]; rfl)
                  case hQ3 => exact fun _ _ _ h => h
                  case hw3 => rfl
                  case hy3 => (intro w' hSw; (try dsimp only at hSw); go_simp; all_goals with_reducible rfl)
                  try simp only [Act.put, List.setIfInBounds_toArray, List.set_cons_zero, List.set_cons_succ]
                  refine' wpAnyH_take (i := 4) ?hi4 (by kernel_rfl) (by kernel_rfl) (by kernel_rfl) ?hQ4 (Or.inl ⟨?hw4, ?hy4⟩) (by assumption) ?_
                  case hi4 => (simp only [List.getElem?_toArray, List.getElem?_cons_succ, List.getElem?_cons_zero]; rfl)
                  case hQ4 => exact fun _ _ _ h => h
                  case hw4 => rfl
                  case hy4 => (intro w' hSw; (try dsimp only at hSw); go_simp; all_goals with_reducible rfl)
                  try simp only [Act.put, List.setIfInBounds_toArray, List.set_cons_zero, List.set_cons_succ]
                  refine' wpAnyH_take (i := 5) ?hi5 (by kernel_rfl) (by kernel_rfl) (by kernel_rfl) ?hQ5 (Or.inl ⟨?hw5, ?hy5⟩) (by assumption) ?_
                  case hi5 => (simp only [List.getElem?_toArray, List.getElem?_cons_succ, List.getElem?_cons_zero]; rfl)
                  case hQ5 => exact fun _ _ _ h => h
                  case hw5 => rfl
                  case hy5 => (intro w' hSw; (try dsimp only at hSw); go_simp; all_goals with_reducible rfl)
                  try simp only [Act.put, List.setIfInBounds_toArray, List.set_cons_zero, List.set_cons_succ]
                  refine' wpAnyH_take (i := 6) ?hi6 (by kernel_rfl) (by kernel_rfl) (by kernel_rfl) ?hQ6 (Or.inl ⟨?hw6, ?hy6⟩) (by assumption) ?_
                  case hi6 => (simp only [List.getElem?_toArray, List.getElem?_cons_succ, List.getElem?_cons_zero]; rfl)
                  case hQ6 => exact fun _ _ _ h => h
                  case hw6 => rfl
                  case hy6 => (intro w' hSw; (try dsimp only at hSw); go_simp; all_goals with_reducible rfl)
                  try simp only [Act.put, List.setIfInBounds_toArray, List.set_cons_zero, List.set_cons_succ]
                  refine' wpAnyH_take (i := 7) ?hi7 (by kernel_rfl) (by kernel_rfl) (by kernel_rfl) ?hQ7 (Or.inl ⟨?hw7, ?hy7⟩) (by assumption) ?_
                  case hi7 => (simp only [List.getElem?_toArray, List.getElem?_cons_succ, List.getElem?_cons_zero]; rfl)
                  case hQ7 => exact fun _ _ _ h => h
                  case hw7 => rfl
                  case hy7 => (intro w' hSw; (try dsimp only at hSw); go_simp; all_goals with_reducible rfl)
                  try simp only [Act.put, List.setIfInBounds_toArray, List.set_cons_zero, List.set_cons_succ]
                  refine' wpAnyH_take (i := 8) ?hi8 (by kernel_rfl) (by kernel_rfl) (by kernel_rfl) ?hQ8 (Or.inl ⟨?hw8, ?hy8⟩) (by assumption) ?_
                  case hi8 => (simp only [List.getElem?_toArray, List.getElem?_cons_succ, List.getElem?_cons_zero]; rfl)
                  case hQ8 => exact fun _ _ _ h => h
                  case hw8 => rfl
                  case hy8 => (intro w' hSw; (try dsimp only at hSw); go_simp; all_goals with_reducible rfl)
                  try simp only [Act.put, List.setIfInBounds_toArray, List.set_cons_zero, List.set_cons_succ]
                  refine wpAnyH_ready (rs := [9]) (by kernel_rfl) (by simp) ?_
                  refine AllReadyH.cons rfl (fun K hK => ?_) AllReadyH.nil
                  go_simp
                  (go_at_call 72; refine (make_any x.lines y.lines n _ _ _ (HLX.out.never (And.left (by assumption))) (HLY.out.never (And.left (by assumption))) (by unfold I64; omega)).mono ?_; rintro e wq ⟨rq, rfl, hcq, hrq⟩; have hS2 := two_keep (by assumption) hcq)
                  try go_wp2_with fail
                  refine hK.out _ _ ?_ (fun hH => ?_)
                  · assumption
                  clear hK K
                  try simp only [Act.put, List.setIfInBounds_toArray, List.set_cons_zero, List.set_cons_succ]
                  rw [HMK.out.1, errV_zero]
                  rw [HMK.out.2] at hrq
                  obtain ⟨qa, qc, rfl, _, _, _⟩ := rdv_slice hrq
                  refine' wpAnyH_take (i := 10) ?hi10 (by kernel_rfl) (by kernel_rfl) (by kernel_rfl) ?hQ10 (Or.inl ⟨?hw10, ?hy10⟩) (by assumption) ?_
                  case hi10 => (simp only [List.getElem?_toArray, List.getElem?_cons_succ, List.getElem?_cons_zero]; rfl)
                  case hQ10 => exact fun _ _ _ h => h
                  case hw10 => rfl
                  case hy10 => (intro w' hSw; (try dsimp only at hSw); go_simp; all_goals with_reducible rfl)
                  try simp only [Act.put, List.setIfInBounds_toArray, List.set_cons_zero, List.set_cons_succ]
                  refine' wpAnyH_take (i := 11) ?hi11 (by kernel_rfl) (by kernel_rfl) (by kernel_rfl) ?hQ11 (Or.inl ⟨?hw11, ?hy11⟩) (by assumption) ?_
                  case hi11 => (simp only [List.getElem?_toArray, List.getElem?_cons_succ, List.getElem?_cons_zero]; rfl)
                  case hQ11 => exact fun _ _ _ h => h
                  case hw11 => rfl
                  case hy11 => (intro w' hSw; (try dsimp only at hSw); go_simp; all_goals with_reducible rfl)
                  try simp only [Act.put, List.setIfInBounds_toArray, List.set_cons_zero, List.set_cons_succ]
                  refine' wpAnyH_take (i := 12) ?hi12 (by kernel_rfl) (by kernel_rfl) (by kernel_rfl) ?hQ12 (Or.inl ⟨?hw12, ?hy12⟩) (by assumption) ?_
                  case hi12 => (simp only [List.getElem?_toArray, List.getElem?_cons_succ, List.getElem?_cons_zero]; rfl)
                  case hQ12 => exact fun _ _ _ h => h
                  case hw12 => rfl
                  case hy12 => (intro w' hSw; (try dsimp only at hSw); go_simp; all_goals with_reducible rfl)
                  try simp only [Act.put, List.setIfInBounds_toArray, List.set_cons_zero, List.set_cons_succ]
                  refine' wpAnyH_take (i := 13) ?hi13 (by kernel_rfl) (by kernel_rfl) (by kernel_rfl) ?hQ13 (Or.inl ⟨?hw13, ?hy13⟩) (by assumption) ?_
                  case hi13 => (simp only [List.getElem?_toArray, List.getElem?_cons_succ, List.getElem?_cons_zero]; rfl)
                  case hQ13 => exact fun _ _ _ h => h
                  case hw13 => rfl
                  case hy13 => (intro w' hSw; (try dsimp only at hSw); go_simp; all_goals with_reducible rfl)
                  try simp only [Act.put, List.setIfInBounds_toArray, List.set_cons_zero, List.set_cons_succ]
                  refine' wpAnyH_take (i := 14) ?hi14 (by kernel_rfl) (by kernel_rfl) (by kernel_rfl) ?hQ14 (Or.inl ⟨?hw14, ?hy14⟩) (by assumption) ?_
                  case hi14 => (simp only [List.getElem?_toArray, List.getElem?_cons_succ, List.getElem?_cons_zero]; rfl)
                  case hQ14 => exact fun _ _ _ h => h
                  case hw14 => rfl
                  case hy14 => (intro w' hSw; (try dsimp only at hSw); go_simp; all_goals with_reducible rfl)
                  try simp only [Act.put, List.setIfInBounds_toArray, List.set_cons_zero, List.set_cons_succ]
                  refine wpAnyH_done (by kernel_rfl) ?_ _
                  have hrr := hn.fresh hrq
                  have hn := (hn.never (Chg.refl Never _).drew).never hcq
                  clear hrq hcq c0 c1 d0 d1 hH hS2
                  have c0 := hn.chg.cellNever C0.out
                  by_cases hcut : cutOf (script x.lines y.lines) n = []
                  · have HCH := Lib.hid (chg_none (p := x.path) hcut)
                    rw [hcut] at hrr ⊢
                    clear hcut
                    go_wp2_with fail
                    go_quiet (fail)
                    go_wp2_with fail
                    go_roundw
                    case rel => exact ⟨A.drop 1, B.drop 1, L, hsa, hsb, hn.never ((Chg.refl Never _).drewN _), FA.out.drop, FB.out.drop, by omega, by rw [Hid, ← HL.out, HG.out, HCH.out]; rfl⟩
                    case measure => simp [sliceLen]; omega
                  · have HCH := Lib.hid (chg_some (p := x.path) hcut)
                    have hpos : 0 < (cutOf (script x.lines y.lines) n).length := List.length_pos_iff.2 hcut
                    clear hcut
                    have hyc : Dat.rd _ (fun k => Never k ∨ _ = some k) _ (⟨1, x.path, cutOf (script x.lines y.lines) n⟩ : Change) := ⟨_, rfl, hpx, hrr⟩
                    go_wp2_with (at_builtin; refine wpList_push (by rfl) _ _ 23 (by rfl) elemOk_change (O := Never) (l := L) (y := ⟨1, x.path, cutOf (script x.lines y.lines) n⟩) (by rfl) (by rfl) (by rfl) hn.own hyc (fun _ h => h.elim) hLl ?_; intro v' w9 hown2 hc2 hk2; have hn2 := hn.step1 hown2 hc2 hk2; clear hown2 hc2 hk2 hn hyc; obtain ⟨oa2, on2, oc2, rfl⟩ := own_isSlice hn2.own)
                    go_quiet (fail)
                    go_wp2_with fail
                    go_roundw
                    case rel => exact ⟨A.drop 1, B.drop 1, L ++ [⟨1, x.path, cutOf (script x.lines y.lines) n⟩], hsa, hsb, hn2.never ((Chg.refl Never _).drewN _), FA.out.drop, FB.out.drop, by rw [List.length_append]; simp; omega, by rw [Hid, List.append_assoc, ← HL.out, HG.out, HCH.out]⟩
                    case measure => simp [sliceLen]; omega
end Go.Proofs.YteocmmejfnmjcaaGreatDoor
namespace Go.Proofs.YteocmmejfnmjcaaGreatDoor

theorem script_puts : ∀ y : List ByteArray, script [] y = y.map fun x => ⟨43, x⟩
  | [] => by rw [script]; rfl
  | x :: r => by rw [script, script_puts r]; rfl
theorem script_takes : ∀ y : List ByteArray, script y [] = y.map fun x => ⟨45, x⟩
  | [] => by rw [script]; rfl
  | x :: r => by rw [script, script_takes r]; rfl
theorem script_self : ∀ y : List ByteArray, script y y = y.map fun x => ⟨32, x⟩
  | [] => by rw [script]; rfl
  | x :: r => by rw [script, if_pos rfl, script_self r]; rfl
theorem changes_map (s : Int) (hs : s ≠ 32) (y : List ByteArray) : changes (y.map fun x => (⟨s, x⟩ : Mark)) = y.length := by
  unfold changes
  rw [List.filter_eq_self.2, List.length_map]
  intro m hm
  obtain ⟨x, _, rfl⟩ := List.mem_map.1 hm
  simpa using hs
theorem wholeR_cut (s : Int) (hs : s ≠ 32) (y : List ByteArray) (h : y.length ≤ 60) : wholeR y s = cutOf (y.map fun x => ⟨s, x⟩) 200 := by
  rw [cut_200 (by rw [List.length_map]; omega), changes_map s hs]
  unfold wholeR
  cases y with
  | nil => rfl
  | cons x r => rw [if_neg (by simp), if_neg (by simp)]
theorem wholeR_shape (y : List ByteArray) (s : Int) : wholeB (wholeR y s) s = true := by
  unfold wholeR
  by_cases h : y = []
  · rw [if_pos h]; rfl
  · rw [if_neg h]
    unfold wholeB
    simp
theorem whole_put {y : List ByteArray} (h : linesFault y = 0) : hunksFault (wholeR y 43) = (0, 0) ∧ strict [] (wholeR y 43) = (y, 0, 0) := by
  have := strict_cut (a := []) (b := y) (n := 200) (checkedFault_zero.2 ⟨rfl, h⟩) (by omega) (by omega)
  rw [script_puts, ← wholeR_cut 43 (by decide) y (linesFault_zero.1 h).1] at this
  exact ⟨this.2.2.1, this.2.1⟩
theorem whole_take {y : List ByteArray} (h : linesFault y = 0) : hunksFault (wholeR y 45) = (0, 0) ∧ strict y (wholeR y 45) = ([], 0, 0) := by
  have := strict_cut (a := y) (b := []) (n := 200) (checkedFault_zero.2 ⟨h, rfl⟩) (by omega) (by omega)
  rw [script_takes, ← wholeR_cut 45 (by decide) y (linesFault_zero.1 h).1] at this
  exact ⟨this.2.2.1, this.2.1⟩
theorem chg_facts {n : Int} (h0 : 0 ≤ n) (h1 : n ≤ 1000) {p : ByteArray} (hp : pathFault p = 0) {x y : Option (List ByteArray)} (hx : ∀ l, x = some l → linesFault l = 0) (hy : ∀ l, y = some l → linesFault l = 0) :
    (∀ c ∈ chg n p x y, c.path = p ∧ changeFault c = 0 ∧ stepOf x c = (y, 0)) ∧ (chg n p x y = [] → x = y) ∧ (chg n p x y).length ≤ 1 := by
  cases x with
  | none =>
    cases y with
    | none => exact ⟨fun c hc => (by cases hc), fun _ => rfl, by simp [chg]⟩
    | some y =>
      obtain ⟨w1, w2⟩ := whole_put (hy y rfl)
      refine ⟨fun c hc => ?_, fun h => (by cases h), by simp [chg]⟩
      rw [show c = ⟨2, p, wholeR y 43⟩ from List.mem_singleton.1 hc]
      refine ⟨rfl, changeFault_of (by simp) (by simp) hp w1 ?_, ?_⟩
      · unfold shapeB
        rw [if_pos rfl]
        exact wholeR_shape y 43
      · unfold stepOf
        simp only [Option.getD_none]
        simp [w2]
  | some x =>
    cases y with
    | none =>
      obtain ⟨w1, w2⟩ := whole_take (hx x rfl)
      refine ⟨fun c hc => ?_, fun h => (by cases h), by simp [chg]⟩
      rw [show c = ⟨3, p, wholeR x 45⟩ from List.mem_singleton.1 hc]
      refine ⟨rfl, changeFault_of (by simp) (by simp) hp w1 ?_, ?_⟩
      · unfold shapeB
        rw [if_neg (by simp), if_pos rfl]
        exact wholeR_shape x 45
      · unfold stepOf
        simp only [Option.getD_some]
        simp [w2]
    | some y =>
      obtain ⟨w0, w1, w2, _⟩ := strict_cut (checkedFault_zero.2 ⟨hx x rfl, hy y rfl⟩) h0 h1
      unfold chg
      simp only
      by_cases e : cutOf (script x y) n = []
      · rw [if_pos e]
        refine ⟨fun c hc => (by cases hc), fun _ => ?_, by simp⟩
        rw [e] at w1
        have q : strict x [] = (x, 0, 0) := by
          unfold strict
          have hl := (linesFault_zero.1 (hx x rfl)).1
          rw [if_neg (by simp [hx x rfl]), if_neg (by decide), strictGo]
          rw [if_neg (by simp; omega)]
          simp
        rw [q] at w1
        exact congrArg some (Prod.mk.inj w1).1
      · rw [if_neg e]
        refine ⟨fun c hc => ?_, fun h => (by cases h), by simp⟩
        rw [show c = ⟨1, p, cutOf (script x y) n⟩ from List.mem_singleton.1 hc]
        refine ⟨rfl, changeFault_of (by simp) (by simp) hp w2 ?_, ?_⟩
        · unfold shapeB
          rw [if_neg (by simp), if_neg (by simp)]
          cases hh : cutOf (script x y) n with
          | nil => exact absurd hh e
          | cons _ _ => rfl
        · unfold stepOf
          simp only [Option.getD_some]
          simp [w1]
theorem all_len : ∀ (b a : List File), Sorted a → (allOf a b).length ≤ a.length + b.length
  | [], a, _ => by unfold allOf; simp
  | x :: r, a, h => by
    have := all_len r (putAt a x) (putAt_sorted h x)
    have e := putAt_len h x
    rw [show allOf a (x :: r) = allOf (putAt a x) r from rfl]
    split at e <;> simp only [List.length_cons] <;> omega
theorem flat_sorted {g : File → List Change} : ∀ {L : List File}, Sorted L → (∀ f ∈ L, (∀ c ∈ g f, c.path = f.path) ∧ (g f).length ≤ 1) → SortedC (L.flatMap g) ∧ (L.flatMap g).length ≤ L.length
  | [], _, _ => ⟨List.Pairwise.nil, Nat.le_refl _⟩
  | f :: r, h, hg => by
    obtain ⟨h1, h2⟩ := List.pairwise_cons.1 h
    obtain ⟨i1, i2⟩ := flat_sorted h2 fun x hx => hg x (List.mem_cons_of_mem _ hx)
    obtain ⟨g1, g2⟩ := hg f (List.mem_cons_self ..)
    rw [List.flatMap_cons]
    refine ⟨List.pairwise_append.2 ⟨?_, i1, fun c hc d hd => ?_⟩, by rw [List.length_append, List.length_cons]; omega⟩
    · match hh : g f with
      | [] => exact List.Pairwise.nil
      | [_] => exact List.pairwise_singleton _ _
      | _ :: _ :: _ => rw [hh] at g2; simp at g2
    · obtain ⟨x, hx, hd⟩ := List.mem_flatMap.1 hd
      rw [g1 c hc, (hg x (List.mem_cons_of_mem _ hx)).1 d hd]
      exact h1 x hx
theorem tree_linesAt {a : List File} (ha : Tree a) (p : ByteArray) : ∀ l, look a p = some l → linesFault l = 0 ∧ pathFault p = 0 := by
  intro l h
  obtain ⟨x, hx, rfl, rfl⟩ := look_some h
  obtain ⟨q1, q2⟩ := fileFault_zero (ha.2.1 x hx)
  exact ⟨q2, q1⟩
theorem ref_facts {a b : List File} (ha : Tree a) (hb : Tree b) {n : Int} (h0 : 0 ≤ n) (h1 : n ≤ 1000) {f : File} (hf : f ∈ allOf a b) :
    (∀ c ∈ chg n f.path (look a f.path) (look b f.path), c.path = f.path ∧ changeFault c = 0 ∧ stepOf (look a f.path) c = (look b f.path, 0)) ∧ (chg n f.path (look a f.path) (look b f.path) = [] → look a f.path = look b f.path) ∧ (chg n f.path (look a f.path) (look b f.path)).length ≤ 1 := by
  have hl := look_mem (all_sorted b a ha.2.2) hf
  rw [all_look f.path b a ha.2.2 hb.2.2] at hl
  have hp : pathFault f.path = 0 := by
    cases hx : look b f.path with
    | some l => exact (tree_linesAt hb _ l hx).2
    | none =>
      rw [hx] at hl
      exact (tree_linesAt ha _ _ hl).2
  exact chg_facts h0 h1 hp (fun l h => (tree_linesAt ha _ l h).1) (fun l h => (tree_linesAt hb _ l h).1)
/-- what is found between two trees is a patch and leads from the one to the other -/
theorem diff_leads {a b : List File} (ha : Tree a) (hb : Tree b) {n : Int} (h0 : 0 ≤ n) (h1 : n ≤ 1000) : Patch (diffL n a b) ∧ Leads a (diffL n a b) b := by
  rw [← diff_same n ha.2.2 hb.2.2]
  unfold refDiff
  have hs := all_sorted b a ha.2.2
  obtain ⟨s1, s2⟩ := flat_sorted (g := fun f => chg n f.path (look a f.path) (look b f.path)) hs fun f hf => ⟨fun c hc => ((ref_facts ha hb h0 h1 hf).1 c hc).1, (ref_facts ha hb h0 h1 hf).2.2⟩
  have hl := all_len b a ha.2.2
  have a8 := ha.1
  have b8 := hb.1
  refine ⟨⟨by omega, fun c hc => ?_, s1⟩, fun c hc => ?_, fun q hq => ?_⟩
  · obtain ⟨f, hf, hc⟩ := List.mem_flatMap.1 hc
    exact ((ref_facts ha hb h0 h1 hf).1 c hc).2.1
  · obtain ⟨f, hf, hc⟩ := List.mem_flatMap.1 hc
    obtain ⟨e1, _, e3⟩ := (ref_facts ha hb h0 h1 hf).1 c hc
    rw [e1]
    exact e3
  · cases hx : look (allOf a b) q with
    | none =>
      rw [all_look q b a ha.2.2 hb.2.2] at hx
      cases hy : look b q with
      | some l => rw [hy] at hx; cases hx
      | none =>
        rw [hy] at hx
        exact hx.symm
    | some l =>
      obtain ⟨f, hf, rfl, _⟩ := look_some hx
      refine ((ref_facts ha hb h0 h1 hf).2.1 ?_).symm
      cases hh : chg n f.path (look a f.path) (look b f.path) with
      | nil => rfl
      | cons c r =>
        have hm : c ∈ chg n f.path (look a f.path) (look b f.path) := by rw [hh]; exact List.mem_cons_self ..
        exact absurd ((ref_facts ha hb h0 h1 hf).1 c hm).1 (hq c (List.mem_flatMap.2 ⟨f, hf, hm⟩))
theorem diff_makes {a b : List File} (ha : Tree a) (hb : Tree b) {n : Int} (h0 : 0 ≤ n) (h1 : n ≤ 1000) : applyR a (diffL n a b) = (b, 0, 0) ∧ applyR b (turnP (diffL n a b)) = (a, 0, 0) := by
  obtain ⟨q1, q2⟩ := diff_leads ha hb h0 h1
  have := applyR_of ha q1 hb.2.2 hb.1 q2
  exact ⟨this, apply_back this⟩
/-- between a tree and itself there is nothing -/
theorem diff_self {a : List File} (ha : Sorted a) (n : Int) : diffL n a a = [] := by
  rw [← diff_same n ha ha]
  unfold refDiff
  rw [List.flatMap_eq_nil_iff]
  intro f _
  cases look a f.path with
  | none => rfl
  | some l =>
    show (if cutOf (script l l) n = [] then [] else _) = ([] : List Change)
    rw [if_pos]
    unfold cutOf
    refine cut_none (fun k => ?_) _ (Nat.le_refl _)
    rw [Bool.eq_false_iff]
    intro h
    obtain ⟨i, m, e1, e2, _⟩ := inAt_iff.1 h
    rw [script_self] at e1
    obtain ⟨x, _, rfl⟩ := List.mem_map.1 (List.mem_of_getElem? e1)
    exact e2 rfl
end Go.Proofs.YteocmmejfnmjcaaGreatDoor
namespace Go.Proofs.YteocmmejfnmjcaaGreatDoor
open Go.RowKit

theorem diff_a : diffFault [] [⟨⟨#[97]⟩, []⟩] 3 = 0 ∧ diffR [] [⟨⟨#[97]⟩, []⟩] 3 = [⟨2, ⟨#[97]⟩, []⟩] := by
  have h : diffFault [] [⟨⟨#[97]⟩, []⟩] 3 = 0 := by decide +kernel
  refine ⟨h, ?_⟩
  rw [diffR_ok h, diffL, diffL_nil]
  rfl
theorem diffFault_zero {a b : List File} {n : Int} (h : diffFault a b n = 0) : (treeFault a).2 = 0 ∧ (treeFault b).2 = 0 ∧ 0 ≤ n ∧ n ≤ 1000 := by
  unfold diffFault at h
  split at h
  · rename_i h1; exact absurd h h1
  · rename_i h1
    split at h
    · rename_i h2; exact absurd h h2
    · rename_i h2
      split at h
      · cases h
      · rename_i h3
        refine ⟨by simpa using h1, by simpa using h2, by omega, by omega⟩
end Go.Proofs.YteocmmejfnmjcaaGreatDoor
namespace Go.Proofs.YteocmmejfnmjcaaGreatDoor
open Go.RowKit

def twoF (t : List File) (p q : List Change) (D : List File) : Int := if (applyR t p).2.2 = 0 then (applyR D q).2.2 else (applyR t p).2.2
def twoC (t : List File) (p q : List Change) (D : List File) : List File := if (applyR t p).2.2 = 0 then (applyR D q).1 else []
def TwoPost (t : List File) (p q : List Change) (D : List File) (w : World) (e : Ending) (w' : World) : Prop :=
  ∃ rb rc, e = .returned (.tuple #[rb, rc, errV (twoF t p q D)]) ∧ Chg Never w w' ∧ Rdv w' Never rb (applyR t p).1 ∧ Rdv w' Never rc (twoC t p q D)
theorem joinOf_any (v : Value) (w : World) : Calls Tryz.prog 47 #[v] w fun e w' => e = .returned v ∧ Chg Never w w' := by
  go_enter Tryz.func47, Tryz.ntmps47
  go_wp2_with fail
  go_ret
  exact ⟨rfl, Chg.refl _ _⟩
theorem interOf_any (v u : Value) (a : Addr) (w : World) (h : w.cell? a = some u) : Calls Tryz.prog 49 #[v, .pointer (some a)] w fun e w' => e = .returned u ∧ Chg Never w w' := by
  go_enter Tryz.func49, Tryz.ntmps49
  go_wp2_with fail
  go_ret
  exact ⟨rfl, Chg.refl _ _⟩
set_option maxHeartbeats 2000000 in
set_option maxRecDepth 100000 in
theorem two_join (t : List File) (p q : List Change) (vt vp vq : Value) (w : World) (ht : Rdv w Never vt t) (hp : Rdv w Never vp p) (hq : Rdv w Never vq q) (m : Int) (hm : w.cell? ⟨1, 0, none⟩ = some (.int .i64 m)) :
    Calls Tryz.prog 46 #[vt, vp, vq, .func (.func 47) #[] #[]] w fun e w' => TwoPost t p q (applyR t p).1 w e w' := by
  go_enter Tryz.func46, Tryz.ntmps46
  go_wp2_with fail
  refine (apply_any t p _ _ _ ht hp m hm).mono ?_
  rintro e w1 ⟨r1, rfl, hw, hr1⟩
  by_cases z : (applyR t p).2.2 = 0
  · have HF : Hid (twoF t p q (applyR t p).1 = (applyR (applyR t p).1 q).2.2) := if_pos z
    have HC : Hid (twoC t p q (applyR t p).1 = (applyR (applyR t p).1 q).1) := if_pos z
    rw [z, errV_zero]
    clear z
    obtain ⟨ba, bc, rfl, _, _, _⟩ := rdv_slice hr1
    go_wp2_with (go_at_call 47; refine (joinOf_any _ _).mono ?_; rintro e w2 ⟨rfl, hcO⟩; have hw2 := hw.trans hcO)
    refine (apply_any (applyR t p).1 q _ _ _ (hr1.never hcO) (hq.never hw2) m (hw2.cellNever hm)).mono ?_
    rintro e w3 ⟨r3, rfl, hc3, hr3⟩
    have hr1 := hr1.never (hcO.trans hc3)
    have hwf := hw2.trans hc3
    obtain ⟨ca, cc, rfl, _, _, _⟩ := rdv_slice hr3
    by_cases y : (applyR (applyR t p).1 q).2.2 = 0
    · rw [y, errV_zero]
      have Y := Lib.hid y
      clear y
      go_wp2_with fail
      go_ret3
      exact ⟨_, _, by rw [HF.out, Y.out]; rfl, hwf, hr1, by rw [HC.out]; exact hr3⟩
    · rw [errV_pos y]
      have Y := Lib.hid y
      clear y
      go_wp2_with fail
      go_ret3
      exact ⟨_, _, by rw [HF.out, errV_pos Y.out]; rfl, hwf, hr1, by rw [HC.out]; exact hr3⟩
  · have HF : Hid (twoF t p q (applyR t p).1 = (applyR t p).2.2) := if_neg z
    have HC : Hid (twoC t p q (applyR t p).1 = []) := if_neg z
    have HB := Lib.hid (applyR_nil z)
    have Z := Lib.hid z
    rw [errV_pos z]
    clear z hr1
    go_wp2_with fail
    go_ret3
    exact ⟨_, _, by rw [HF.out, errV_pos Z.out]; rfl, hw, by rw [HB.out]; exact rdv_nil _ _, by rw [HC.out]; exact rdv_nil _ _⟩
set_option maxHeartbeats 2000000 in
set_option maxRecDepth 100000 in
theorem two_inter (t : List File) (p q : List Change) (vt vp vq : Value) (a : Addr) (w : World) (ht : Rdv w Never vt t) (hp : Rdv w Never vp p) (hq : Rdv w Never vq q) (ha : w.cell? a = some vt) (m : Int) (hm : w.cell? ⟨1, 0, none⟩ = some (.int .i64 m)) :
    Calls Tryz.prog 46 #[vt, vp, vq, .func (.func 49) #[] #[.pointer (some a)]] w fun e w' => TwoPost t p q t w e w' := by
  go_enter Tryz.func46, Tryz.ntmps46
  go_wp2_with fail
  refine (apply_any t p _ _ _ ht hp m hm).mono ?_
  rintro e w1 ⟨r1, rfl, hw, hr1⟩
  by_cases z : (applyR t p).2.2 = 0
  · have HF : Hid (twoF t p q t = (applyR t q).2.2) := if_pos z
    have HC : Hid (twoC t p q t = (applyR t q).1) := if_pos z
    rw [z, errV_zero]
    clear z
    obtain ⟨ba, bc, rfl, _, _, _⟩ := rdv_slice hr1
    go_wp2_with (go_at_call 49; refine (interOf_any _ _ _ _ (hw.cellNever ha)).mono ?_; rintro e w2 ⟨rfl, hcO⟩; have hw2 := hw.trans hcO)
    refine (apply_any t q _ _ _ (ht.never hw2) (hq.never hw2) m (hw2.cellNever hm)).mono ?_
    rintro e w3 ⟨r3, rfl, hc3, hr3⟩
    have hr1 := hr1.never (hcO.trans hc3)
    have hwf := hw2.trans hc3
    obtain ⟨ca, cc, rfl, _, _, _⟩ := rdv_slice hr3
    by_cases y : (applyR t q).2.2 = 0
    · rw [y, errV_zero]
      have Y := Lib.hid y
      clear y
      go_wp2_with fail
      go_ret3
      exact ⟨_, _, by rw [HF.out, Y.out]; rfl, hwf, hr1, by rw [HC.out]; exact hr3⟩
    · rw [errV_pos y]
      have Y := Lib.hid y
      clear y
      go_wp2_with fail
      go_ret3
      exact ⟨_, _, by rw [HF.out, errV_pos Y.out]; rfl, hwf, hr1, by rw [HC.out]; exact hr3⟩
  · have HF : Hid (twoF t p q t = (applyR t p).2.2) := if_neg z
    have HC : Hid (twoC t p q t = []) := if_neg z
    have HB := Lib.hid (applyR_nil z)
    have Z := Lib.hid z
    rw [errV_pos z]
    clear z hr1
    go_wp2_with fail
    go_ret3
    exact ⟨_, _, by rw [HF.out, errV_pos Z.out]; rfl, hw, by rw [HB.out]; exact rdv_nil _ _, by rw [HC.out]; exact rdv_nil _ _⟩
def joinFt (t : List File) (p q : List Change) (n : Int) : Int := if twoF t p q (applyR t p).1 = 0 then diffFault t (twoC t p q (applyR t p).1) n else twoF t p q (applyR t p).1
def joinRt (t : List File) (p q : List Change) (n : Int) : List Change := if twoF t p q (applyR t p).1 = 0 then diffR t (twoC t p q (applyR t p).1) n else []
def interF (t : List File) (p q : List Change) (n : Int) : Int := if twoF t p q t = 0 then diffFault (applyR t p).1 (twoC t p q t) n else twoF t p q t
def interR (t : List File) (p q : List Change) (n : Int) : List Change := if twoF t p q t = 0 then diffR (applyR t p).1 (twoC t p q t) n else []
set_option maxHeartbeats 2000000 in
set_option maxRecDepth 100000 in
theorem alg_join_any (t : List File) (p q : List Change) (n : Int) (vt vp vq : Value) (w : World) (ht : Rdv w Never vt t) (hp : Rdv w Never vp p) (hq : Rdv w Never vq q) (hn : I64 n) (m : Int) (hm : w.cell? ⟨1, 0, none⟩ = some (.int .i64 m)) :
    Calls Tryz.prog 16 #[vt, vp, vq, .int .i64 n] w fun e w' => ∃ r, e = .returned (.tuple #[r, errV (joinFt t p q n)]) ∧ Chg Never w w' ∧ Rdv w' Never r (joinRt t p q n) := by
  go_enter Tryz.func16, Tryz.ntmps16
  go_wp2_with fail
  refine (two_join t p q _ _ _ _ ht hp hq m hm).mono ?_
  rintro e w2 ⟨rb, rc, rfl, hw, hrb, hrc⟩
  by_cases z : twoF t p q (applyR t p).1 = 0
  · have HF : Hid (joinFt t p q n = diffFault t (twoC t p q (applyR t p).1) n) := if_pos z
    have HR : Hid (joinRt t p q n = diffR t (twoC t p q (applyR t p).1) n) := if_pos z
    rw [z, errV_zero]
    clear z
    go_wp2_with fail
    refine (diff_any t (twoC t p q (applyR t p).1) n _ _ _ (ht.never hw) hrc hn m (hw.cellNever hm)).mono ?_
    rintro e w3 ⟨r3, rfl, hc3, hr3⟩
    rw [← HF.out]
    rw [← HR.out] at hr3
    go_wp2_with fail
    go_ret2
    exact ⟨r3, rfl, hw.trans hc3, hr3⟩
  · have HF : Hid (joinFt t p q n = twoF t p q (applyR t p).1) := if_neg z
    have HR : Hid (joinRt t p q n = []) := if_neg z
    have Z := Lib.hid z
    rw [errV_pos z]
    clear z
    go_wp2_with fail
    go_ret2
    exact ⟨.slice none 0 0, by rw [HF.out, errV_pos Z.out]; rfl, hw, by rw [HR.out]; exact rdv_nil _ _⟩
set_option maxHeartbeats 2000000 in
set_option maxRecDepth 100000 in
theorem alg_inter_any (t : List File) (p q : List Change) (n : Int) (vt vp vq : Value) (w : World) (ht : Rdv w Never vt t) (hp : Rdv w Never vp p) (hq : Rdv w Never vq q) (hn : I64 n) (m : Int) (hm : w.cell? ⟨1, 0, none⟩ = some (.int .i64 m)) :
    Calls Tryz.prog 18 #[vt, vp, vq, .int .i64 n] w fun e w' => ∃ r, e = .returned (.tuple #[r, errV (interF t p q n)]) ∧ Chg Never w w' ∧ Rdv w' Never r (interR t p q n) := by
  obtain ⟨ta, tc, rfl, _, _, _⟩ := rdv_slice ht
  have hA : Chg Never w (w.alloc (.cells #[.slice ta t.length tc] 22)) := (Chg.refl Never w).alloc _
  have b0 : (w.alloc (.cells #[.slice ta t.length tc] 22)).cell? ⟨w.heap.size, 0, none⟩ = some (.slice ta t.length tc) := by simp only [World.cell?]; rw [heap_alloc_new]; rfl
  go_enter Tryz.func18, Tryz.ntmps18
  go_wp2_with fail
  refine (two_inter t p q _ _ _ _ _ (ht.never hA) (hp.never hA) (hq.never hA) b0 m (hA.cellNever hm)).mono ?_
  rintro e w2 ⟨rb, rc, rfl, hc2, hrb, hrc⟩
  have hw := hA.trans hc2
  clear hc2
  by_cases z : twoF t p q t = 0
  · have HF : Hid (interF t p q n = diffFault (applyR t p).1 (twoC t p q t) n) := if_pos z
    have HR : Hid (interR t p q n = diffR (applyR t p).1 (twoC t p q t) n) := if_pos z
    rw [z, errV_zero]
    clear z
    go_wp2_with fail
    refine (diff_any (applyR t p).1 (twoC t p q t) n _ _ _ hrb hrc hn m (hw.cellNever hm)).mono ?_
    rintro e w3 ⟨r3, rfl, hc3, hr3⟩
    rw [← HF.out]
    rw [← HR.out] at hr3
    go_wp2_with fail
    go_ret2
    exact ⟨r3, rfl, hw.trans hc3, hr3⟩
  · have HF : Hid (interF t p q n = twoF t p q t) := if_neg z
    have HR : Hid (interR t p q n = []) := if_neg z
    have Z := Lib.hid z
    rw [errV_pos z]
    clear z
    go_wp2_with fail
    go_ret2
    exact ⟨.slice none 0 0, by rw [HF.out, errV_pos Z.out]; rfl, hw, by rw [HR.out]; exact rdv_nil _ _⟩
end Go.Proofs.YteocmmejfnmjcaaGreatDoor
namespace Go.Proofs.YteocmmejfnmjcaaGreatDoor

/-- what was done leads from a tree to a tree -/
theorem apply_tree {t : List File} {p : List Change} (h : (applyR t p).2.2 = 0) : Tree t ∧ Tree (applyR t p).1 := by
  obtain ⟨_, h1, h2, h3, h4, h5⟩ := applyR_inv (t := t) (p := p) (b := (applyR t p).1) (k := (applyR t p).2.1) (Prod.ext rfl (Prod.ext rfl h))
  exact ⟨h1, leads_tree h1 h2 h3 h4 h5⟩
end Go.Proofs.YteocmmejfnmjcaaGreatDoor
