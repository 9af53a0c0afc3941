/-
  PARTS: THE WALK of patch.Diff.; A BUILDER OF ONE'S OWN STAYS while only new blocks come.; THE WALKS of strings.Builder's methods once more, saying that every block that holds no bytes (but the builder's own) stays.; HUNKS AS TEXTS, in plain Lean (chapter 5): numbers, spans, heads; lines written and read.; HUNKS AS TEXTS, in plain Lean (chapter 5): the reader, line by line; what is printed is read, what is read is printed so.; HUNKS AS TEXTS, in plain Lean (chapter 5): whole texts. What is printed is read; what is read is printed so; cut off within the last line it is none.; PATCHES AS TEXTS, in plain Lean (chapter 8): lines written and read.; HUNKS AS TEXTS, in plain Lean: the document's reading (hunk by hunk) is the program's (line by line).
-/
import Derived.Test.YtmjpfoeaobdaeaaGreatDoorRa2
import Derived.Test.YtmjpfoeaobdaeaaGreatDoorRa11
import Derived.Test.YtmjpfoeaobdaeaaGreatDoorRa9
import Derived.Test.YtmjpfoeaobdaeaaGreatDoorRa7
import Derived.Deep.RegionHeld3
import Derived.BigQuiet
import Derived.Test.YtmjpfoeaobdaeaaGreatDoorRa1
import Derived.Test.YtmjpfoeaobdaeaaGreatDoorRa6
import Derived.Lib.ItoaNum
import Derived.Lib.AtoiTie
set_option linter.unusedVariables false
set_option linter.unusedSimpArgs false
namespace Go.Proofs.YtmjpfoeaobdaeaaGreatDoor
open Go.RowKit

def diffFault (a b : List File) (n : Int) : Int := if (treeFault a).2 ≠ 0 then (treeFault a).2 else if (treeFault b).2 ≠ 0 then (treeFault b).2 else if n < 0 ∨ 1000 < n then 1 else 0
def diffR (a b : List File) (n : Int) : List Change := if diffFault a b n = 0 then diffL n a b else []
theorem diffFault_a {a b : List File} {n : Int} (h : (treeFault a).2 ≠ 0) : diffFault a b n = (treeFault a).2 := if_pos h
theorem diffFault_b {a b : List File} {n : Int} (h : (treeFault a).2 = 0) (g : (treeFault b).2 ≠ 0) : diffFault a b n = (treeFault b).2 := by unfold diffFault; rw [if_neg (by rw [h]; decide), if_pos g]
theorem diffFault_n {a b : List File} {n : Int} (h : (treeFault a).2 = 0) (g : (treeFault b).2 = 0) (hn : n < 0 ∨ 1000 < n) : diffFault a b n = 1 := by unfold diffFault; rw [if_neg (by rw [h]; decide), if_neg (by rw [g]; decide), if_pos hn]
theorem diffFault_0 {a b : List File} {n : Int} (h : (treeFault a).2 = 0) (g : (treeFault b).2 = 0) (n0 : 0 ≤ n) (n1 : n ≤ 1000) : diffFault a b n = 0 := by unfold diffFault; rw [if_neg (by rw [h]; decide), if_neg (by rw [g]; decide), if_neg (by omega)]
theorem diffR_bad {a b : List File} {n : Int} (h : diffFault a b n ≠ 0) : diffR a b n = [] := if_neg h
theorem diffR_ok {a b : List File} {n : Int} (h : diffFault a b n = 0) : diffR a b n = diffL n a b := if_pos h
def sliceLen : Value → Nat
  | .slice _ n _ => n
  | _ => 0
theorem cons_of_get {α : Type} {l : List α} {x : α} (h : l[0]? = some x) : l = x :: l.drop 1 := by
  cases l with
  | nil => cases h
  | cons y r => simp at h; subst h; rfl
theorem diffG_take {n : Int} {x : File} {a b : List File} (hx : a[0]? = some x) (h : b = [] ∨ ∃ y, b[0]? = some y ∧ less x.path y.path = true) : diffL n a b = [⟨3, x.path, wholeR x.lines 45⟩] ++ diffL n (a.drop 1) b := by
  have e := cons_of_get hx
  generalize a.drop 1 = r at e ⊢
  subst e
  exact diffL_take (h.imp_right fun ⟨y, h1, h2⟩ => ⟨y, _, cons_of_get h1, h2⟩)
theorem diffG_put {n : Int} {y : File} {a b : List File} (hy : b[0]? = some y) (h : a = [] ∨ ∃ x, a[0]? = some x ∧ ¬ less x.path y.path = true ∧ less y.path x.path = true) : diffL n a b = [⟨2, y.path, wholeR y.lines 43⟩] ++ diffL n a (b.drop 1) := by
  have e := cons_of_get hy
  generalize b.drop 1 = r at e ⊢
  subst e
  exact diffL_put (h.imp_right fun ⟨x, h1, h2⟩ => ⟨x, _, cons_of_get h1, h2⟩)
theorem diffG_both {n : Int} {x y : File} {a b : List File} (hx : a[0]? = some x) (hy : b[0]? = some y) (h : ¬ less x.path y.path = true) (g : ¬ less y.path x.path = true) : diffL n a b = chg n x.path (some x.lines) (some y.lines) ++ diffL n (a.drop 1) (b.drop 1) := by
  have e := cons_of_get hx
  have e2 := cons_of_get hy
  generalize a.drop 1 = r at e ⊢
  generalize b.drop 1 = s at e2 ⊢
  subst e
  subst e2
  exact diffL_both h g
def AllFine (a : List File) : Prop := ∀ f ∈ a, fileFault f = 0
theorem AllFine.get {a : List File} (h : AllFine a) {x : File} (hx : a[0]? = some x) : linesFault x.lines = 0 := fileFault_lines (h x (List.mem_of_getElem? hx))
theorem AllFine.drop {a : List File} (h : AllFine a) : AllFine (a.drop 1) := fun f hf => h f (List.mem_of_mem_drop hf)

def DiffPostO (a b : List File) (n : Int) (w : World) (e : Ending) (w' : World) : Prop := ∃ r, e = .returned (.tuple #[r, errV (diffFault a b n)]) ∧ Chg Never w w' ∧ Rdv w' (Old w.heap.size) r (diffR a b n)
theorem diffPost_bad {a b : List File} {n k : Int} {w w' : World} (h : diffFault a b n = k) (hk : k ≠ 0) (hc : Chg Never w w') : DiffPostO a b n w (.returned (.tuple #[.slice none 0 0, errV k])) w' :=
  ⟨_, by rw [h], hc, by rw [diffR_bad (by rw [h]; exact hk)]; exact rdv_nil _ _⟩
theorem diffPost_ok {a b : List File} {n : Int} {w w' : World} {r : Value} (h : diffFault a b n = 0) (hc : Chg Never w w') (hr : Rdv w' (Old w.heap.size) r (diffL n a b)) : DiffPostO a b n w (.returned (.tuple #[r, .nilIface])) w' :=
  ⟨r, by rw [h, errV_zero], hc, by rw [diffR_ok h]; exact hr⟩
set_option maxHeartbeats 4000000 in
set_option maxRecDepth 100000 in
theorem diff_old (a b : List File) (n : Int) (va vb : Value) (w : World) (ha : Rdv w Never va a) (hb : Rdv w Never vb b) (hn : I64 n) (m : Int) (hm : w.cell? ⟨0, 0, none⟩ = some (.int .i64 m)) :
    Calls Tryz.prog 45 #[va, vb, .int .i64 n] w fun e w' => DiffPostO a b n w e w' := by
  obtain ⟨a0, acap0, rfl, _, _, _⟩ := rdv_slice ha
  obtain ⟨b0, bcap0, rfl, _, _, _⟩ := rdv_slice hb
  have x0 : ∀ wx, (Instr.index 134 (.agg #[.slice a0 a.length acap0, .slice b0 b.length bcap0]) (.int .i64 0)).run Tryz.prog wx = .ok (.slice a0 a.length acap0) wx := fun _ => by kernel_rfl
  have x1 : ∀ wx, (Instr.index 134 (.agg #[.slice a0 a.length acap0, .slice b0 b.length bcap0]) (.int .i64 1)).run Tryz.prog wx = .ok (.slice b0 b.length bcap0) wx := fun _ => by kernel_rfl
  unfold I64 at hn
  go_enter Tryz.func45, Tryz.ntmps45
  go_wp2_with fail
  go_loopw [18] (fun i wL => ∃ k : Nat, k ≤ 2 ∧ i = .int .i64 k ∧ Chg Never w wL ∧ Hid ((1 ≤ k → (treeFault a).2 = 0) ∧ (2 ≤ k → (treeFault b).2 = 0))) (fun i _ => 2 - (intOf i).toNat)
  case atStart => exact ⟨0, by decide, rfl, Chg.refl _ _, by omega, by omega⟩
  case round =>
    rename World => wL
    obtain ⟨k, hk, rfl, hc, hF⟩ := hrel
    rcases Nat.lt_or_ge k 2 with hlt | hge
    · rcases Nat.eq_zero_or_pos k with rfl | hpos
      · go_wp2_with fail
        refine (tree_check_any a _ _ (ha.never hc) m (hc.cellNever hm)).mono ?_
        rintro e w2 ⟨rfl, hc2⟩
        have hc := hc.trans hc2
        clear hc2
        by_cases z : (treeFault a).2 = 0
        · have Z := Lib.hid z
          rw [z, errV_zero]
          clear z
          go_wp2_with fail
          go_roundw
          case rel => exact ⟨1, by decide, rfl, hc, fun _ => Z.out, by omega⟩
          case measure => simp [intOf]
        · rw [errV_pos z]
          have E := diffPost_bad (n := n) (w := w) (diffFault_a (b := b) (n := n) z) z hc
          rw [errV_pos z] at E
          clear z
          go_wp2_with fail
          go_ret2
          exact E
      · obtain rfl : k = 1 := by omega
        go_wp2_with fail
        refine (tree_check_any b _ _ (hb.never hc) m (hc.cellNever hm)).mono ?_
        rintro e w2 ⟨rfl, hc2⟩
        have hc := hc.trans hc2
        clear hc2
        by_cases z : (treeFault b).2 = 0
        · have Z := Lib.hid z
          rw [z, errV_zero]
          clear z
          go_wp2_with fail
          go_roundw
          case rel => exact ⟨2, by decide, rfl, hc, fun _ => hF.out.1 (by decide), fun _ => Z.out⟩
          case measure => simp [intOf]
        · rw [errV_pos z]
          have E := diffPost_bad (n := n) (w := w) (diffFault_b (n := n) (hF.out.1 (by decide)) z) z hc
          rw [errV_pos z] at E
          clear z
          go_wp2_with fail
          go_ret2
          exact E
    · obtain rfl : k = 2 := by omega
      have ta := hF.out.1 (by decide)
      have tb := hF.out.2 (by decide)
      clear hF x0 x1
      by_cases hr : n < 0 ∨ 1000 < n
      · have E := diffPost_bad (w := w) (diffFault_n ta tb hr) (by decide) hc
        clear ta tb
        rcases hr with hr | hr
        · go_wp2_with fail
          go_ret2
          exact E
        · have h0 : ¬ n < 0 := by omega
          go_wp2_with fail
          go_ret2
          exact E
      · have n0 : 0 ≤ n := by omega
        have n1 : n ≤ 1000 := by omega
        have EE : Hid (∀ (w' : World) (r : Value), Chg Never w w' → Rdv w' (Old w.heap.size) r (diffL n a b) → DiffPostO a b n w (.returned (.tuple #[r, .nilIface])) w') := fun w' r h1 h2 => diffPost_ok (diffFault_0 ta tb n0 n1) h1 h2
        have FA := Lib.hid (show AllFine a from (treeFault_zero ta).2.1)
        have FB := Lib.hid (show AllFine b from (treeFault_zero tb).2.1)
        have la := (treeFault_zero ta).1
        have lb := (treeFault_zero tb).1
        have HA := Lib.hid (ha.never hc)
        have HB := Lib.hid (hb.never hc)
        clear ta tb hr ha hb
        have hn0 := ownO_nil (α := Change) 100 (Chg.refl Never wL)
        go_wp2_with fail
        go_loopw [0, 1, 12] (fun v u o wr => ∃ (A B : List File) (L : List Change), Rdv wL Never v A ∧ Rdv wL Never u B ∧ OwnO 100 wL wr o L ∧ Hid (AllFine A) ∧ Hid (AllFine B) ∧ A.length + B.length + L.length ≤ 16 ∧ Hid (L ++ diffL n A B = diffL n a b)) (fun v u _ _ => sliceLen v + sliceLen u)
        case atStart => exact ⟨a, b, [], HA.out, HB.out, hn0, FA, FB, by simp; omega, by unfold Hid; rw [List.nil_append]⟩
        case round =>
          clear hn0 la lb FA FB HA HB
          rename World => wr
          obtain ⟨A, B, L, hA, hB, hn, FA, FB, hlen, HL⟩ := hrel
          obtain ⟨oa, on, oc, rfl⟩ := own_isSlice hn.own
          obtain ⟨aa, acap, rfl, a1, a2, a3⟩ := rdv_slice hA
          obtain ⟨ba, bcap, rfl, b1, b2, b3⟩ := rdv_slice hB
          unfold maxLen at a2 b2
          have hLl : L.length ≤ 1000000000 := by omega
          rcases Nat.eq_zero_or_pos A.length with hA0 | hA0
          · obtain rfl : A = [] := List.eq_nil_of_length_eq_zero hA0
            clear a3
            rcases Nat.eq_zero_or_pos B.length with hB0 | hB0
            · obtain rfl : B = [] := List.eq_nil_of_length_eq_zero hB0
              have HLo := HL.out
              rw [diffL_nil, List.append_nil] at HLo
              have HLO := Lib.hid HLo
              clear HLo
              go_wp2_with fail
              go_ret2
              exact EE.out _ _ (hc.trans hn.chg) (by rw [← HLO.out]; exact hn.own.rdv.sub (fun _ _ h => Nat.lt_of_lt_of_le h hc.size))
            · obtain ⟨y, hy⟩ : ∃ y, B[0]? = some y := ⟨B[0], by simp [hB0]⟩
              obtain ⟨yb, yo, yv, rfl, _, _, d0, d1, hpy, hly⟩ := elems_file b3 hy
              simp only [Nat.zero_mul, Nat.add_zero] at d0 d1
              have HLY := Lib.hid hly
              have FY := Lib.hid (FB.out.get hy)
              have hyl := linesFault_len FY.out
              obtain ⟨ya, ycap, rfl, _, _, _⟩ := rdv_slice hly
              have D0 := Lib.hid d0
              have D1 := Lib.hid d1
              have d0 := hn.chg.cellNever d0
              have d1 := hn.chg.cellNever d1
              have HY := Lib.hid hy
              obtain ⟨sb, _, hrunB, _, hsb⟩ := slice_gen (P := Tryz.prog) (t := 29) (by kernel_rfl) size_file hB 1 B.length (by omega) (Nat.le_refl _)
              have hrunB := fun (wx : World) => hrunB 1 wx rfl rfl
              rw [List.take_of_length_le (Nat.le_of_eq List.length_drop)] at hsb
              have hdb : (B.drop 1).length = B.length - 1 := List.length_drop
              have q0 : ((B.length : Int) == 0) = false := beq_eq_false_iff_ne.2 (by omega)
              have q1 : decide ((B.length : Int) > 0) = true := by simp; omega
              clear hy hly
              have HG := Lib.hid (diffG_put (n := n) (a := []) HY.out (.inl rfl))
              clear b3
              go_wp2_with fail
              go_quiet (fail)
              generalize hqq : World.drewN wr _ = wr2
              have hn := hqq ▸ hn.never ((Chg.refl Never wr).drewN _)
              clear hqq
              try clear c0 c1
              try clear d0 d1
              try have c0 := hn.chg.cellNever C0.out
              try have c1 := hn.chg.cellNever C1.out
              try have d0 := hn.chg.cellNever D0.out
              try have d1 := hn.chg.cellNever D1.out
              go_wp2_with fail
              go_quiet (fail)
              generalize hqq : World.drewN wr2 _ = wr3
              have hn := hqq ▸ hn.never ((Chg.refl Never wr2).drewN _)
              clear hqq
              try clear c0 c1
              try clear d0 d1
              try have c0 := hn.chg.cellNever C0.out
              try have c1 := hn.chg.cellNever C1.out
              try have d0 := hn.chg.cellNever D0.out
              try have d1 := hn.chg.cellNever D1.out
              go_wp2_with fail
              refine wp_region_held_drew (S := fun w' => Chg Never wL w' ∧ w'.cell? ⟨yb, yo, none⟩ = some (.string y.path) ∧ w'.cell? ⟨yb, yo + 1, none⟩ = some (.slice ya y.lines.length ycap)) (by kernel_rfl) ⟨hn.chg.drew, hn.chg.cellNever D0.out, hn.chg.cellNever D1.out⟩ (fun hH => ?_)
              refine' tk 0 ?_
              refine' tk 1 ?_
              refine' tk 2 ?_
              refine' tk 3 ?_
              refine' tk 4 ?_
              refine' tk 5 ?_
              refine' tk 6 ?_
              refine' tk 7 ?_
              refine' tk 8 ?_
              refine wpAnyH_ready (rs := [9]) (by kernel_rfl) (by simp) ?_
              refine AllReadyH.cons rfl (fun K hK => ?_) AllReadyH.nil
              go_simp
              (go_at_call 82; refine (all_any y.lines 43 _ _ (HLY.out.never (And.left (by assumption))) (by decide) (by decide) (by omega)).mono ?_; rintro e wq ⟨rq, rfl, hcq, hrq⟩; obtain ⟨qa, qc, rfl, _, _, _⟩ := rdv_slice hrq; have hS2 := two_keep (by assumption) hcq)
              try go_wp2_with fail
              refine hK.out _ _ ?_ (fun hH => ?_)
              · assumption
              clear hK K
              try simp only [Act.put, List.setIfInBounds_toArray, List.set_cons_zero, List.set_cons_succ]
              refine' tk 10 ?_
              refine wpAnyH_ready (rs := [11]) (by kernel_rfl) (by simp) ?_
              refine AllReadyH.cons rfl (fun K hK => ?_) AllReadyH.nil
              go_simp
              refine hK.out _ _ (two_keep hH ((Chg.refl Never _).alloc _)) (fun hH2 => ?_)
              clear hK K
              try simp only [Act.put, List.setIfInBounds_toArray, List.set_cons_zero, List.set_cons_succ]
              have hnq := (hn.never (Chg.refl Never _).drew).never hcq
              have hyq : Dat.rd _ (fun k => Old wL.heap.size k ∨ _ = some k) _ (⟨2, y.path, wholeR y.lines 43⟩ : Change) := ⟨_, rfl, hpy, hn.fresh hrq⟩
              refine wpAnyH_ready (rs := [12]) (by kernel_rfl) (by simp) ?_
              refine AllReadyH.cons rfl (fun K hK => ?_) AllReadyH.nil
              refine step_push (by rfl) _ _ 62 (by rfl) elemOk_change (O := Old wL.heap.size) (l := L) (y := ⟨2, y.path, wholeR y.lines 43⟩) (by rfl) (by rfl) (by simp) hnq.own hyq hnq.olds hLl ?_
              intro v' wp hown2 hc2 hk2
              have hn2 := hnq.step1 hown2 hc2
              obtain ⟨oa2, on2, oc2, rfl⟩ := own_isSlice hn2.own
              refine hK.out _ _ ⟨hn2.chg, hn2.chg.cellNever D0.out, hn2.chg.cellNever D1.out⟩ (fun _ => ?_)
              clear hK K hnq hyq hown2 hc2 hk2 hH hH2 hS2 hcq hrq hn
              try simp only [Act.put, List.setIfInBounds_toArray, List.set_cons_zero, List.set_cons_succ]
              refine' tk 13 ?_
              refine wpAnyH_done (by kernel_rfl) ?_ _
              go_wp2_with fail
              go_roundw
              case rel => exact ⟨_, B.drop 1, L ++ [⟨2, y.path, wholeR y.lines 43⟩], hA, hsb, hn2, FA, FB.out.drop, by rw [List.length_append, hdb]; simp; omega, by rw [Hid, List.append_assoc, ← HG.out]; exact HL.out⟩
              case measure => simp [sliceLen]; omega
          · obtain ⟨x, hx⟩ : ∃ x, A[0]? = some x := ⟨A[0], by simp [hA0]⟩
            obtain ⟨xb, xo, xv, rfl, _, _, c0, c1, hpx, hlx⟩ := elems_file a3 hx
            simp only [Nat.zero_mul, Nat.add_zero] at c0 c1
            have HLX := Lib.hid hlx
            have FX := Lib.hid (FA.out.get hx)
            have hxl := linesFault_len FX.out
            obtain ⟨xa, xcap, rfl, _, _, _⟩ := rdv_slice hlx
            have C0 := Lib.hid c0
            have C1 := Lib.hid c1
            have c0 := hn.chg.cellNever c0
            have c1 := hn.chg.cellNever c1
            have HX := Lib.hid hx
            obtain ⟨sa, _, hrunA, _, hsa⟩ := slice_gen (P := Tryz.prog) (t := 29) (by kernel_rfl) size_file hA 1 A.length (by omega) (Nat.le_refl _)
            have hrunA := fun (wx : World) => hrunA 1 wx rfl rfl
            rw [List.take_of_length_le (Nat.le_of_eq List.length_drop)] at hsa
            have hda : (A.drop 1).length = A.length - 1 := List.length_drop
            have p0 : ((A.length : Int) == 0) = false := beq_eq_false_iff_ne.2 (by omega)
            have p1 : decide ((A.length : Int) > 0) = true := by simp; omega
            clear hx hlx
            rcases Nat.eq_zero_or_pos B.length with hB0 | hB0
            · obtain rfl : B = [] := List.eq_nil_of_length_eq_zero hB0
              have HG := Lib.hid (diffG_take (n := n) (b := []) HX.out (.inl rfl))
              clear b3 a3
              go_wp2_with fail
              go_quiet (fail)
              generalize hqq : World.drewN wr _ = wr2
              have hn := hqq ▸ hn.never ((Chg.refl Never wr).drewN _)
              clear hqq
              try clear c0 c1
              try clear d0 d1
              try have c0 := hn.chg.cellNever C0.out
              try have c1 := hn.chg.cellNever C1.out
              try have d0 := hn.chg.cellNever D0.out
              try have d1 := hn.chg.cellNever D1.out
              go_wp2_with fail
              refine wp_region_held_drew (S := fun w' => Chg Never wL w' ∧ w'.cell? ⟨xb, xo, none⟩ = some (.string x.path) ∧ w'.cell? ⟨xb, xo + 1, none⟩ = some (.slice xa x.lines.length xcap)) (by kernel_rfl) ⟨hn.chg.drew, hn.chg.cellNever C0.out, hn.chg.cellNever C1.out⟩ (fun hH => ?_)
              refine' tk 0 ?_
              refine' tk 1 ?_
              refine' tk 2 ?_
              refine' tk 3 ?_
              refine' tk 4 ?_
              refine' tk 5 ?_
              refine' tk 6 ?_
              refine' tk 7 ?_
              refine' tk 8 ?_
              refine wpAnyH_ready (rs := [9]) (by kernel_rfl) (by simp) ?_
              refine AllReadyH.cons rfl (fun K hK => ?_) AllReadyH.nil
              go_simp
              (go_at_call 82; refine (all_any x.lines 45 _ _ (HLX.out.never (And.left (by assumption))) (by decide) (by decide) (by omega)).mono ?_; rintro e wq ⟨rq, rfl, hcq, hrq⟩; obtain ⟨qa, qc, rfl, _, _, _⟩ := rdv_slice hrq; have hS2 := two_keep (by assumption) hcq)
              try go_wp2_with fail
              refine hK.out _ _ ?_ (fun hH => ?_)
              · assumption
              clear hK K
              try simp only [Act.put, List.setIfInBounds_toArray, List.set_cons_zero, List.set_cons_succ]
              refine' tk 10 ?_
              refine wpAnyH_ready (rs := [11]) (by kernel_rfl) (by simp) ?_
              refine AllReadyH.cons rfl (fun K hK => ?_) AllReadyH.nil
              go_simp
              refine hK.out _ _ (two_keep hH ((Chg.refl Never _).alloc _)) (fun hH2 => ?_)
              clear hK K
              try simp only [Act.put, List.setIfInBounds_toArray, List.set_cons_zero, List.set_cons_succ]
              have hnq := (hn.never (Chg.refl Never _).drew).never hcq
              have hyq : Dat.rd _ (fun k => Old wL.heap.size k ∨ _ = some k) _ (⟨3, x.path, wholeR x.lines 45⟩ : Change) := ⟨_, rfl, hpx, hn.fresh hrq⟩
              refine wpAnyH_ready (rs := [12]) (by kernel_rfl) (by simp) ?_
              refine AllReadyH.cons rfl (fun K hK => ?_) AllReadyH.nil
              refine step_push (by rfl) _ _ 62 (by rfl) elemOk_change (O := Old wL.heap.size) (l := L) (y := ⟨3, x.path, wholeR x.lines 45⟩) (by rfl) (by rfl) (by simp) hnq.own hyq hnq.olds hLl ?_
              intro v' wp hown2 hc2 hk2
              have hn2 := hnq.step1 hown2 hc2
              obtain ⟨oa2, on2, oc2, rfl⟩ := own_isSlice hn2.own
              refine hK.out _ _ ⟨hn2.chg, hn2.chg.cellNever C0.out, hn2.chg.cellNever C1.out⟩ (fun _ => ?_)
              clear hK K hnq hyq hown2 hc2 hk2 hH hH2 hS2 hcq hrq hn
              try simp only [Act.put, List.setIfInBounds_toArray, List.set_cons_zero, List.set_cons_succ]
              refine' tk 13 ?_
              refine wpAnyH_done (by kernel_rfl) ?_ _
              go_wp2_with fail
              go_roundw
              case rel => exact ⟨A.drop 1, _, L ++ [⟨3, x.path, wholeR x.lines 45⟩], hsa, hB, hn2, FA.out.drop, FB, by rw [List.length_append, hda]; simp; omega, by rw [Hid, List.append_assoc, ← HG.out]; exact HL.out⟩
              case measure => simp [sliceLen]; omega
            · obtain ⟨y, hy⟩ : ∃ y, B[0]? = some y := ⟨B[0], by simp [hB0]⟩
              obtain ⟨yb, yo, yv, rfl, _, _, d0, d1, hpy, hly⟩ := elems_file b3 hy
              simp only [Nat.zero_mul, Nat.add_zero] at d0 d1
              have HLY := Lib.hid hly
              have FY := Lib.hid (FB.out.get hy)
              have hyl := linesFault_len FY.out
              obtain ⟨ya, ycap, rfl, _, _, _⟩ := rdv_slice hly
              have D0 := Lib.hid d0
              have D1 := Lib.hid d1
              have d0 := hn.chg.cellNever d0
              have d1 := hn.chg.cellNever d1
              have HY := Lib.hid hy
              obtain ⟨sb, _, hrunB, _, hsb⟩ := slice_gen (P := Tryz.prog) (t := 29) (by kernel_rfl) size_file hB 1 B.length (by omega) (Nat.le_refl _)
              have hrunB := fun (wx : World) => hrunB 1 wx rfl rfl
              rw [List.take_of_length_le (Nat.le_of_eq List.length_drop)] at hsb
              have hdb : (B.drop 1).length = B.length - 1 := List.length_drop
              have q0 : ((B.length : Int) == 0) = false := beq_eq_false_iff_ne.2 (by omega)
              have q1 : decide ((B.length : Int) > 0) = true := by simp; omega
              clear hy hly
              by_cases l1 : less x.path y.path = true
              · have t1 : Op.bytesLess x.path.toList y.path.toList = true := l1
                have HG := Lib.hid (diffG_take (n := n) HX.out (.inr ⟨y, HY.out, l1⟩))
                clear a3 b3 l1
                go_wp2_with fail
                go_quiet (fail)
                generalize hqq : World.drewN wr _ = wr2
                have hn := hqq ▸ hn.never ((Chg.refl Never wr).drewN _)
                clear hqq
                try clear c0 c1
                try clear d0 d1
                try have c0 := hn.chg.cellNever C0.out
                try have c1 := hn.chg.cellNever C1.out
                try have d0 := hn.chg.cellNever D0.out
                try have d1 := hn.chg.cellNever D1.out
                go_wp2_with fail
                refine wp_region_held_drew (S := fun w' => Chg Never wL w' ∧ w'.cell? ⟨xb, xo, none⟩ = some (.string x.path) ∧ w'.cell? ⟨xb, xo + 1, none⟩ = some (.slice xa x.lines.length xcap)) (by kernel_rfl) ⟨hn.chg.drew, hn.chg.cellNever C0.out, hn.chg.cellNever C1.out⟩ (fun hH => ?_)
                refine' tk 0 ?_
                refine' tk 1 ?_
                refine' tk 2 ?_
                refine' tk 3 ?_
                refine' tk 4 ?_
                refine' tk 5 ?_
                refine' tk 6 ?_
                refine' tk 7 ?_
                refine' tk 8 ?_
                refine wpAnyH_ready (rs := [9]) (by kernel_rfl) (by simp) ?_
                refine AllReadyH.cons rfl (fun K hK => ?_) AllReadyH.nil
                go_simp
                (go_at_call 82; refine (all_any x.lines 45 _ _ (HLX.out.never (And.left (by assumption))) (by decide) (by decide) (by omega)).mono ?_; rintro e wq ⟨rq, rfl, hcq, hrq⟩; obtain ⟨qa, qc, rfl, _, _, _⟩ := rdv_slice hrq; have hS2 := two_keep (by assumption) hcq)
                try go_wp2_with fail
                refine hK.out _ _ ?_ (fun hH => ?_)
                · assumption
                clear hK K
                try simp only [Act.put, List.setIfInBounds_toArray, List.set_cons_zero, List.set_cons_succ]
                refine' tk 10 ?_
                refine wpAnyH_ready (rs := [11]) (by kernel_rfl) (by simp) ?_
                refine AllReadyH.cons rfl (fun K hK => ?_) AllReadyH.nil
                go_simp
                refine hK.out _ _ (two_keep hH ((Chg.refl Never _).alloc _)) (fun hH2 => ?_)
                clear hK K
                try simp only [Act.put, List.setIfInBounds_toArray, List.set_cons_zero, List.set_cons_succ]
                have hnq := (hn.never (Chg.refl Never _).drew).never hcq
                have hyq : Dat.rd _ (fun k => Old wL.heap.size k ∨ _ = some k) _ (⟨3, x.path, wholeR x.lines 45⟩ : Change) := ⟨_, rfl, hpx, hn.fresh hrq⟩
                refine wpAnyH_ready (rs := [12]) (by kernel_rfl) (by simp) ?_
                refine AllReadyH.cons rfl (fun K hK => ?_) AllReadyH.nil
                refine step_push (by rfl) _ _ 62 (by rfl) elemOk_change (O := Old wL.heap.size) (l := L) (y := ⟨3, x.path, wholeR x.lines 45⟩) (by rfl) (by rfl) (by simp) hnq.own hyq hnq.olds hLl ?_
                intro v' wp hown2 hc2 hk2
                have hn2 := hnq.step1 hown2 hc2
                obtain ⟨oa2, on2, oc2, rfl⟩ := own_isSlice hn2.own
                refine hK.out _ _ ⟨hn2.chg, hn2.chg.cellNever C0.out, hn2.chg.cellNever C1.out⟩ (fun _ => ?_)
                clear hK K hnq hyq hown2 hc2 hk2 hH hH2 hS2 hcq hrq hn
                try simp only [Act.put, List.setIfInBounds_toArray, List.set_cons_zero, List.set_cons_succ]
                refine' tk 13 ?_
                refine wpAnyH_done (by kernel_rfl) ?_ _
                go_wp2_with fail
                go_roundw
                case rel => exact ⟨A.drop 1, _, L ++ [⟨3, x.path, wholeR x.lines 45⟩], hsa, hB, hn2, FA.out.drop, FB, by rw [List.length_append, hda]; simp; omega, by rw [Hid, List.append_assoc, ← HG.out]; exact HL.out⟩
                case measure => simp [sliceLen]; omega
              · have t1 : Op.bytesLess x.path.toList y.path.toList = false := by simpa [less] using l1
                by_cases l2 : less y.path x.path = true
                · have t2 : Op.bytesLess y.path.toList x.path.toList = true := l2
                  have HG := Lib.hid (diffG_put (n := n) HY.out (.inr ⟨x, HX.out, l1, l2⟩))
                  clear a3 b3 l1 l2
                  go_wp2_with fail
                  go_quiet (fail)
                  generalize hqq : World.drewN wr _ = wr2
                  have hn := hqq ▸ hn.never ((Chg.refl Never wr).drewN _)
                  clear hqq
                  try clear c0 c1
                  try clear d0 d1
                  try have c0 := hn.chg.cellNever C0.out
                  try have c1 := hn.chg.cellNever C1.out
                  try have d0 := hn.chg.cellNever D0.out
                  try have d1 := hn.chg.cellNever D1.out
                  go_wp2_with fail
                  go_quiet (fail)
                  generalize hqq : World.drewN wr2 _ = wr3
                  have hn := hqq ▸ hn.never ((Chg.refl Never wr2).drewN _)
                  clear hqq
                  try clear c0 c1
                  try clear d0 d1
                  try have c0 := hn.chg.cellNever C0.out
                  try have c1 := hn.chg.cellNever C1.out
                  try have d0 := hn.chg.cellNever D0.out
                  try have d1 := hn.chg.cellNever D1.out
                  go_wp2_with fail
                  refine wp_region_held_drew (S := fun w' => Chg Never wL w' ∧ w'.cell? ⟨yb, yo, none⟩ = some (.string y.path) ∧ w'.cell? ⟨yb, yo + 1, none⟩ = some (.slice ya y.lines.length ycap)) (by kernel_rfl) ⟨hn.chg.drew, hn.chg.cellNever D0.out, hn.chg.cellNever D1.out⟩ (fun hH => ?_)
                  refine' tk 0 ?_
                  refine' tk 1 ?_
                  refine' tk 2 ?_
                  refine' tk 3 ?_
                  refine' tk 4 ?_
                  refine' tk 5 ?_
                  refine' tk 6 ?_
                  refine' tk 7 ?_
                  refine' tk 8 ?_
                  refine wpAnyH_ready (rs := [9]) (by kernel_rfl) (by simp) ?_
                  refine AllReadyH.cons rfl (fun K hK => ?_) AllReadyH.nil
                  go_simp
                  (go_at_call 82; refine (all_any y.lines 43 _ _ (HLY.out.never (And.left (by assumption))) (by decide) (by decide) (by omega)).mono ?_; rintro e wq ⟨rq, rfl, hcq, hrq⟩; obtain ⟨qa, qc, rfl, _, _, _⟩ := rdv_slice hrq; have hS2 := two_keep (by assumption) hcq)
                  try go_wp2_with fail
                  refine hK.out _ _ ?_ (fun hH => ?_)
                  · assumption
                  clear hK K
                  try simp only [Act.put, List.setIfInBounds_toArray, List.set_cons_zero, List.set_cons_succ]
                  refine' tk 10 ?_
                  refine wpAnyH_ready (rs := [11]) (by kernel_rfl) (by simp) ?_
                  refine AllReadyH.cons rfl (fun K hK => ?_) AllReadyH.nil
                  go_simp
                  refine hK.out _ _ (two_keep hH ((Chg.refl Never _).alloc _)) (fun hH2 => ?_)
                  clear hK K
                  try simp only [Act.put, List.setIfInBounds_toArray, List.set_cons_zero, List.set_cons_succ]
                  have hnq := (hn.never (Chg.refl Never _).drew).never hcq
                  have hyq : Dat.rd _ (fun k => Old wL.heap.size k ∨ _ = some k) _ (⟨2, y.path, wholeR y.lines 43⟩ : Change) := ⟨_, rfl, hpy, hn.fresh hrq⟩
                  refine wpAnyH_ready (rs := [12]) (by kernel_rfl) (by simp) ?_
                  refine AllReadyH.cons rfl (fun K hK => ?_) AllReadyH.nil
                  refine step_push (by rfl) _ _ 62 (by rfl) elemOk_change (O := Old wL.heap.size) (l := L) (y := ⟨2, y.path, wholeR y.lines 43⟩) (by rfl) (by rfl) (by simp) hnq.own hyq hnq.olds hLl ?_
                  intro v' wp hown2 hc2 hk2
                  have hn2 := hnq.step1 hown2 hc2
                  obtain ⟨oa2, on2, oc2, rfl⟩ := own_isSlice hn2.own
                  refine hK.out _ _ ⟨hn2.chg, hn2.chg.cellNever D0.out, hn2.chg.cellNever D1.out⟩ (fun _ => ?_)
                  clear hK K hnq hyq hown2 hc2 hk2 hH hH2 hS2 hcq hrq hn
                  try simp only [Act.put, List.setIfInBounds_toArray, List.set_cons_zero, List.set_cons_succ]
                  refine' tk 13 ?_
                  refine wpAnyH_done (by kernel_rfl) ?_ _
                  go_wp2_with fail
                  go_roundw
                  case rel => exact ⟨_, B.drop 1, L ++ [⟨2, y.path, wholeR y.lines 43⟩], hA, hsb, hn2, FA, FB.out.drop, by rw [List.length_append, hdb]; simp; omega, by rw [Hid, List.append_assoc, ← HG.out]; exact HL.out⟩
                  case measure => simp [sliceLen]; omega
                · have t2 : Op.bytesLess y.path.toList x.path.toList = false := by simpa [less] using l2
                  have HG := Lib.hid (diffG_both (n := n) HX.out HY.out l1 l2)
                  have HMK := Lib.hid (make_valid FX.out FY.out n0 n1)
                  clear a3 b3 l1 l2
                  go_wp2_with fail
                  go_quiet (fail)
                  generalize hqq : World.drewN wr _ = wr2
                  have hn := hqq ▸ hn.never ((Chg.refl Never wr).drewN _)
                  clear hqq
                  try clear c0 c1
                  try clear d0 d1
                  try have c0 := hn.chg.cellNever C0.out
                  try have c1 := hn.chg.cellNever C1.out
                  try have d0 := hn.chg.cellNever D0.out
                  try have d1 := hn.chg.cellNever D1.out
                  go_wp2_with fail
                  go_quiet (fail)
                  generalize hqq : World.drewN wr2 _ = wr3
                  have hn := hqq ▸ hn.never ((Chg.refl Never wr2).drewN _)
                  clear hqq
                  try clear c0 c1
                  try clear d0 d1
                  try have c0 := hn.chg.cellNever C0.out
                  try have c1 := hn.chg.cellNever C1.out
                  try have d0 := hn.chg.cellNever D0.out
                  try have d1 := hn.chg.cellNever D1.out
                  go_wp2_with fail
                  refine wp_region_held_drew (S := fun w' => Chg Never wL w' ∧ w'.cell? ⟨xb, xo + 1, none⟩ = some (.slice xa x.lines.length xcap) ∧ w'.cell? ⟨yb, yo + 1, none⟩ = some (.slice ya y.lines.length ycap)) (by kernel_rfl) ⟨hn.chg.drew, c1, d1⟩ (fun hH => ?_)
                  refine' tk 0 ?_
                  refine' tk 1 ?_
                  refine' tk 2 ?_
                  refine' tk 3 ?_
                  refine' tk 4 ?_
                  refine' tk 5 ?_
                  refine' tk 6 ?_
                  refine' tk 7 ?_
                  refine' tk 8 ?_
                  refine wpAnyH_ready (rs := [9]) (by kernel_rfl) (by simp) ?_
                  refine AllReadyH.cons rfl (fun K hK => ?_) AllReadyH.nil
                  go_simp
                  (go_at_call 83; refine (make_any x.lines y.lines n _ _ _ (HLX.out.never (And.left (by assumption))) (HLY.out.never (And.left (by assumption))) (by unfold I64; omega)).mono ?_; rintro e wq ⟨rq, rfl, hcq, hrq⟩; have hS2 := two_keep (by assumption) hcq)
                  try go_wp2_with fail
                  refine hK.out _ _ ?_ (fun hH => ?_)
                  · assumption
                  clear hK K
                  try simp only [Act.put, List.setIfInBounds_toArray, List.set_cons_zero, List.set_cons_succ]
                  rw [HMK.out.1, errV_zero]
                  rw [HMK.out.2] at hrq
                  obtain ⟨qa, qc, rfl, _, _, _⟩ := rdv_slice hrq
                  refine' tk 10 ?_
                  refine' tk 11 ?_
                  refine' tk 12 ?_
                  refine' tk 13 ?_
                  refine' tk 14 ?_
                  refine wpAnyH_done (by kernel_rfl) ?_ _
                  have hrr := hn.fresh hrq
                  have hn := (hn.never (Chg.refl Never _).drew).never hcq
                  clear hrq hcq c0 c1 d0 d1 hH hS2
                  have c0 := hn.chg.cellNever C0.out
                  by_cases hcut : cutOf (script x.lines y.lines) n = []
                  · have HCH := Lib.hid (chg_none (p := x.path) hcut)
                    rw [hcut] at hrr ⊢
                    clear hcut
                    go_wp2_with fail
                    go_quiet (fail)
                    go_wp2_with fail
                    go_roundw
                    case rel => exact ⟨A.drop 1, B.drop 1, L, hsa, hsb, hn.never ((Chg.refl Never _).drewN _), FA.out.drop, FB.out.drop, by omega, by rw [Hid, ← HL.out, HG.out, HCH.out]; rfl⟩
                    case measure => simp [sliceLen]; omega
                  · have HCH := Lib.hid (chg_some (p := x.path) hcut)
                    have hpos : 0 < (cutOf (script x.lines y.lines) n).length := List.length_pos_iff.2 hcut
                    clear hcut
                    have hyc : Dat.rd _ (fun k => Old wL.heap.size k ∨ _ = some k) _ (⟨1, x.path, cutOf (script x.lines y.lines) n⟩ : Change) := ⟨_, rfl, hpx, hrr⟩
                    go_wp2_with (at_builtin; refine wpList_push (by rfl) _ _ 62 (by rfl) elemOk_change (O := Old wL.heap.size) (l := L) (y := ⟨1, x.path, cutOf (script x.lines y.lines) n⟩) (by rfl) (by rfl) (by rfl) hn.own hyc hn.olds hLl ?_; intro v' w9 hown2 hc2 hk2; have hn2 := hn.step1 hown2 hc2; clear hown2 hc2 hk2 hn hyc; obtain ⟨oa2, on2, oc2, rfl⟩ := own_isSlice hn2.own)
                    go_quiet (fail)
                    go_wp2_with fail
                    go_roundw
                    case rel => exact ⟨A.drop 1, B.drop 1, L ++ [⟨1, x.path, cutOf (script x.lines y.lines) n⟩], hsa, hsb, hn2.never ((Chg.refl Never _).drewN _), FA.out.drop, FB.out.drop, by rw [List.length_append]; simp; omega, by rw [Hid, List.append_assoc, ← HL.out, HG.out, HCH.out]⟩
                    case measure => simp [sliceLen]; omega
end Go.Proofs.YtmjpfoeaobdaeaaGreatDoor
namespace Go.Proofs.YtmjpfoeaobdaeaaGreatDoor
open Go.RowKit

theorem bat_keep {B b : Nat} {bs : List Value} {w w' : World} {p : Value} (h : Lib.BuilderAtF 37 5 B b p bs w) (hc : Chg Never w w') : Lib.BuilderAtF 37 5 B b p bs w' := by
  have hlt := h.lt
  obtain ⟨hB, v, hv, hown, hne⟩ := h
  refine ⟨hB, v, (hc.block b hlt (fun x => x)).trans hv, hown.kept (row := none) ⟨hc.os, hc.tape, hc.output, hc.size, fun k hk _ => hc.block k hk (fun x => x)⟩ (Classical.em _), hne⟩
theorem bld_keep {B b : Nat} {bs : List Value} {w w' : World} (h : IsB B b bs w) (hc : Chg Never w w') : IsB B b bs w' :=
  h.elim (fun x => .inl (bat_keep x hc)) (fun x => .inr (bat_keep x hc))
end Go.Proofs.YtmjpfoeaobdaeaaGreatDoor
namespace Go.Proofs.YtmjpfoeaobdaeaaGreatDoor
open Go.RowKit

def Keeps (b : Nat) (w w' : World) : Prop := ∀ (k : Nat) (c : Array Value) (T : TypeId) (fz : Nat × Nat), k ≠ b → w.heap[k]? = some (.cells c T fz) → T ≠ 5 → w'.heap[k]? = some (.cells c T fz)
theorem Keeps.trans {b : Nat} {x y z : World} (h : Keeps b x y) (g : Keeps b y z) : Keeps b x z := fun k c T fz h1 h2 h3 => g k c T fz h1 (h k c T fz h1 h2 h3) h3
theorem keeps_set {b : Nat} (w : World) (j : Nat) (u : Value) : Keeps b w (w.setCell ⟨b, j, none⟩ u) := fun k c T fz h1 h2 _ => by
  rw [Below.heap_setCell _ _ _ _ (fun e => h1 e)]; exact h2
theorem keeps_alloc {b : Nat} (w : World) (o : Obj) : Keeps b w (w.alloc o) := fun k c T fz _ h2 _ => by
  rw [Below.heap_alloc _ _ _ (Array.getElem?_eq_some_iff.1 h2).1]; exact h2
theorem keeps_grow {b B n : Nat} {w w' : World} {v : Value} {bs : List Value} (hown : w.ownsRowF B 5 1 v n bs) (h : w.grownBy w' v.ownBlock) : Keeps b w w' := fun k c T fz _ h2 h3 => by
  rw [h.block k (Array.getElem?_eq_some_iff.1 h2).1 ?_]
  · exact h2
  · intro e
    rcases hown.2 with ⟨rfl, _⟩ | ⟨g, cap, cur, f, rfl, _, hg, _⟩
    · cases e
    · injection e with e
      subst e
      rw [h2] at hg
      injection hg with hg
      injection hg with _ hg _
      exact h3 hg
theorem Keeps.blk3 {b B : Nat} {w w' : World} {t : TypeId} {x y z : Value} (h : Keeps b w w') (hb : Blk3 w B t x y z) (hne : B ≠ b) (ht : t ≠ 5) : Blk3 w' B t x y z := h B _ t _ hne hb ht
theorem Keeps.blk2 {b B : Nat} {w w' : World} {t : TypeId} {x y : Value} (h : Keeps b w w') (hb : Blk2 w B t x y) (hne : B ≠ b) (ht : t ≠ 5) : Blk2 w' B t x y := h B _ t _ hne hb ht

set_option maxHeartbeats 1000000 in
set_option maxRecDepth 100000 in
theorem bldk_check (B b : Nat) (bs : List Value) (w : World) (h : IsB B b bs w) :
    Calls Tryz.prog 17 #[.pointer (some ⟨b, 0, none⟩)] w fun e w' => e = .returned (.tuple #[]) ∧ BAt B b bs w' ∧ Below B w w' ∧ Keeps b w w' := by
  obtain ⟨j, hj, hjs⟩ := Option.map_eq_some_iff.1 bld_info
  rcases h with h | h
  · have c0 := h.cell0
    have hsh := h.shape
    have hfz := h.frozen0
    have hfin : BAt B b bs (w.setCell ⟨b, 0, none⟩ (.pointer (some ⟨b, 0, none⟩))) ∧ Below B w (w.setCell ⟨b, 0, none⟩ (.pointer (some ⟨b, 0, none⟩))) ∧ Keeps b w (w.setCell ⟨b, 0, none⟩ (.pointer (some ⟨b, 0, none⟩))) := ⟨h.used _, (Below.refl B w).setCell (p := ⟨b, 0, none⟩) h.1 _, keeps_set _ _ _⟩
    clear h
    go_enter Tryz.func17, Tryz.ntmps17
    go_wp2_with fail
    rw [Lib.run_to_unsafe w ⟨b, 0, none⟩ Tryz.underlying34 Tryz.underlying77 hj (by rw [hjs]; decide) hsh (Nat.zero_lt_succ 1)]
    simp only [Result.andThen]
    rw [Oper.upon_value]
    go_wp2_with fail
    rw [run_callFunc_extern Tryz.func35 (by kernel_rfl) (by kernel_rfl) (by kernel_rfl) (e := Extern.AbiNoEscape.same) (by kernel_rfl)]
    rw [Lib.run_noEscape]
    simp only [Result.andThen]
    rw [Oper.upon_value]
    go_wp2_with fail
    rw [Lib.run_from_unsafe w ⟨b, 0, none⟩ Tryz.underlying77 Tryz.underlying34 hj hsh bld_lies]
    simp only [Result.andThen]
    rw [Oper.upon_value]
    go_wp2_with fail
    go_end0
    exact ⟨rfl, hfin.1, hfin.2⟩
  · have c0 := h.cell0
    go_enter Tryz.func17, Tryz.ntmps17
    go_wp2_with fail
    rw [Lib.run_neq_ptr_same w _ Tryz.underlying34 hj]
    go_wp2_with fail
    go_end0
    exact ⟨rfl, h, Below.refl B _, fun _ _ _ _ _ h _ => h⟩
set_option maxHeartbeats 1000000 in
set_option maxRecDepth 100000 in
theorem bldk_string (B b : Nat) (bs : List Value) (s : ByteArray) (w : World) (h : IsB B b bs w) (hlen : bs.length + s.size ≤ 140737488355328) (hBw : B ≤ w.heap.size) :
    Calls Tryz.prog 11 #[.pointer (some ⟨b, 0, none⟩), .string s] w fun e w' => e = .returned (.tuple #[.int .i64 s.size, .nilIface]) ∧ BAt B b (bs ++ Lib.strCells s) w' ∧ Below B w w' ∧ Keeps b w w' := by
  obtain ⟨i0, hi, hz0, hz1, hz2⟩ := info_parts bld_byte
  go_enter Tryz.func11, Tryz.ntmps11
  go_wp2_with fail
  refine (bldk_check B b bs _ h).mono ?_
  rintro e w1 ⟨rfl, h1, hb1, hk1⟩
  obtain ⟨hB, v, hbk, hown, hne⟩ := h1
  have c0 : w1.cell? ⟨b, 0, none⟩ = some (.pointer (some ⟨b, 0, none⟩)) := by rw [Lib.cell_of_heap hbk]; rfl
  have c1 : w1.cell? ⟨b, 1, none⟩ = some v := by rw [Lib.cell_of_heap hbk]; rfl
  have hlt : b < w1.heap.size := (Array.getElem?_eq_some_iff.1 hbk).1
  have hs1 := hb1.size
  go_wp2_with (at_builtin; refine Lib.wpList_append_own_stringF _ rfl _ _ 35 9 rfl B 5 i0 Tryz.underlying35 Tryz.underlying9 hi hz0 hz1 hz2 _ _ _ rfl hown s rfl (by unfold maxLen; omega) (by omega) (by omega) ?_)
  intro v' w2 hown' hgrow _
  have hb2 : w2.heap[b]? = some (.cells #[.pointer (some ⟨b, 0, none⟩), v] 37 (0, 0)) := (hgrow.block b hlt (fun e => hne e.symm)).trans hbk
  have d0 : w2.cell? ⟨b, 0, none⟩ = some (.pointer (some ⟨b, 0, none⟩)) := by rw [Lib.cell_of_heap hb2]; rfl
  have d1 : w2.cell? ⟨b, 1, none⟩ = some v := by rw [Lib.cell_of_heap hb2]; rfl
  have f1 : w2.frozen? ⟨b, 1, none⟩ = false := Lib.frozen_of_heap hb2 1
  have hfin := Lib.BuilderAtF.put (T := 37) (e := 5) (v' := v') hB hb2 (bs' := bs ++ Lib.strCells s) (by simpa [Lib.strCells_length] using hown') (by decide)
  have hfin2 := (hb1.grown hgrow (by omega) (fun k hk => (hown.lt k hk).1)).setCell (p := ⟨b, 1, none⟩) hB v'
  have hk3 : Keeps b _ (w2.setCell ⟨b, 1, none⟩ v') := (hk1.trans (keeps_grow hown hgrow)).trans (keeps_set _ _ _)
  obtain ⟨ao, n', cap, rfl⟩ : ∃ ao n' cap, v' = .slice ao n' cap := by
    rcases hown'.2 with ⟨hv, _⟩ | ⟨g, cap, cur, fz, hv, _⟩
    · exact ⟨_, _, _, hv⟩
    · exact ⟨_, _, _, hv⟩
  clear hgrow hown hown' hbk hb2 c0 c1 hk1
  go_wp2_with fail
  go_ret2
  exact ⟨rfl, hfin, hfin2, hk3⟩
set_option maxHeartbeats 1000000 in
set_option maxRecDepth 100000 in
theorem bldk_byte1 (B b : Nat) (bs : List Value) (c : Int) (w : World) (h : IsB B b bs w) (hlen : bs.length + 1 ≤ 140737488355328) (hBw : B ≤ w.heap.size) :
    Calls Tryz.prog 135 #[.pointer (some ⟨b, 0, none⟩), .int .u8 c] w fun e w' => e = .returned .nilIface ∧ BAt B b (bs ++ [.int .u8 c]) w' ∧ Below B w w' ∧ Keeps b w w' := by
  obtain ⟨i0, hi, hz0, hz1, hz2⟩ := info_parts bld_byte
  go_enter Tryz.func135, Tryz.ntmps135
  go_wp2_with fail
  refine (bldk_check B b bs _ h).mono ?_
  rintro e w1 ⟨rfl, h1, hb1, hk1⟩
  obtain ⟨hB, v, hbk, hown, hne⟩ := h1
  have c0 : w1.cell? ⟨b, 0, none⟩ = some (.pointer (some ⟨b, 0, none⟩)) := by rw [Lib.cell_of_heap hbk]; rfl
  have c1 : w1.cell? ⟨b, 1, none⟩ = some v := by rw [Lib.cell_of_heap hbk]; rfl
  have hlt : b < w1.heap.size := (Array.getElem?_eq_some_iff.1 hbk).1
  have hs1 := hb1.size
  go_wp2_with (at_builtin; refine wpList_append_ownF _ rfl _ _ 35 rfl B 5 i0 (.int .u8 0) 1 1 Tryz.underlying35 hi hz0 hz1 hz2 rfl (by decide) _ _ _ rfl (hown.alloc _) ⟨w1.heap.size, 0, none⟩ 1 1 [.int .u8 c] rfl rfl ?c1 ?c2 (by unfold maxLen; omega) (by omega) (by simp; omega) ?_)
  case c1 =>
    intro j u hj
    match j, hj with
    | 0, hj => simp at hj; subst hj; simp [Addr.add]
  case c2 => intro u hu; simp at hu; subst hu; rfl
  intro v' w2 hown' hgrow _
  have hb2 : w2.heap[b]? = some (.cells #[.pointer (some ⟨b, 0, none⟩), v] 37 (0, 0)) := ((hgrow.block b (by simp; omega) (fun e => hne e.symm)).trans (Lib.alloc_old w1 _ b hlt)).trans hbk
  have d0 : w2.cell? ⟨b, 0, none⟩ = some (.pointer (some ⟨b, 0, none⟩)) := by rw [Lib.cell_of_heap hb2]; rfl
  have d1 : w2.cell? ⟨b, 1, none⟩ = some v := by rw [Lib.cell_of_heap hb2]; rfl
  have f1 : w2.frozen? ⟨b, 1, none⟩ = false := Lib.frozen_of_heap hb2 1
  have hfin := Lib.BuilderAtF.put (T := 37) (e := 5) (v' := v') hB hb2 (bs' := bs ++ [.int .u8 c]) (by simpa using hown') (by decide)
  have hfin2 := ((hb1.alloc (by omega) _).grown hgrow (by simp; omega) (fun k hk => (hown.lt k hk).1)).setCell (p := ⟨b, 1, none⟩) hB v'
  have hk3 : Keeps b _ (w2.setCell ⟨b, 1, none⟩ v') := ((hk1.trans (keeps_alloc _ _)).trans (keeps_grow (hown.alloc _) hgrow)).trans (keeps_set _ _ _)
  obtain ⟨ao, n', cap, rfl⟩ : ∃ ao n' cap, v' = .slice ao n' cap := by
    rcases hown'.2 with ⟨hv, _⟩ | ⟨g, cap, cur, fz, hv, _⟩
    · exact ⟨_, _, _, hv⟩
    · exact ⟨_, _, _, hv⟩
  clear hgrow hown hown' hbk hb2 c0 c1 hk1
  go_wp2_with fail
  go_ret
  exact ⟨rfl, hfin, hfin2, hk3⟩
end Go.Proofs.YtmjpfoeaobdaeaaGreatDoor
namespace Go.Proofs.YtmjpfoeaobdaeaaGreatDoor

def dec3 (n : Nat) : List UInt8 :=
  if n < 10 then [UInt8.ofNat (48 + n)] else if n < 100 then [UInt8.ofNat (48 + n / 10), UInt8.ofNat (48 + n % 10)] else [UInt8.ofNat (48 + n / 10 / 10), UInt8.ofNat (48 + n / 10 % 10), UInt8.ofNat (48 + n % 10)]
theorem digits_three {n : Nat} (h : n < 1000) : Lib.decDigits n = dec3 n := by
  unfold dec3
  by_cases h1 : n < 10
  · rw [if_pos h1, Lib.decDigits_one h1]
  · rw [if_neg h1]
    by_cases h2 : n < 100
    · rw [if_pos h2, Lib.decDigits_two h1 h2]
    · rw [if_neg h2, Lib.decDigits, dif_neg h1, Lib.decDigits_two (by omega) (by omega)]
      rfl
theorem dec3_chars : ∀ n, n < 1000 → (dec3 n).all (fun c => decide (48 ≤ c.toNat) && decide (c.toNat ≤ 57)) = true := by decide +kernel
theorem dec3_len : ∀ n, n < 1000 → (dec3 n).length ≤ 3 := by decide +kernel
theorem dec_digit {n : Nat} (h : n < 1000) {c : UInt8} (hc : c ∈ Lib.decDigits n) : 48 ≤ c.toNat ∧ c.toNat ≤ 57 := by
  rw [digits_three h] at hc
  have := List.all_eq_true.1 (dec3_chars n h) c hc
  simpa using this

def cutSub (t : List UInt8) : List UInt8 → Option (List UInt8 × List UInt8)
  | [] => if t = [] then some ([], []) else none
  | c :: r => if t.isPrefixOf (c :: r) then some ([], (c :: r).drop t.length) else (cutSub t r).map fun p => (c :: p.1, p.2)
theorem cut_some {t : List UInt8} : ∀ {s a b : List UInt8}, cutSub t s = some (a, b) → s = a ++ t ++ b
  | [], a, b, h => by
    rw [cutSub] at h
    by_cases e : t = []
    · rw [if_pos e] at h
      injection h with h
      injection h with h1 h2
      rw [← h1, ← h2, e]; rfl
    · rw [if_neg e] at h; cases h
  | c :: r, a, b, h => by
    rw [cutSub] at h
    by_cases e : t.isPrefixOf (c :: r) = true
    · rw [if_pos e] at h
      injection h with h
      injection h with h1 h2
      rw [← h1, ← h2, List.nil_append]
      obtain ⟨q, hq⟩ := List.isPrefixOf_iff_prefix.1 e
      rw [← hq, List.drop_left]
    · rw [if_neg e] at h
      cases hr : cutSub t r with
      | none => rw [hr] at h; cases h
      | some p =>
        rw [hr] at h
        injection h with h
        injection h with h1 h2
        rw [← h1, ← h2, List.cons_append, List.cons_append, ← cut_some (a := p.1) (b := p.2) hr]
theorem cut_at {x : UInt8} {t : List UInt8} (b : List UInt8) : ∀ {a : List UInt8}, (∀ c ∈ a, c ≠ x) → cutSub (x :: t) (a ++ (x :: t) ++ b) = some (a, b)
  | [], _ => by
    rw [List.nil_append, List.cons_append, cutSub, if_pos (by rw [List.isPrefixOf_iff_prefix]; exact ⟨b, rfl⟩)]
    show some ([], (x :: t ++ b).drop (x :: t).length) = _
    rw [List.drop_left]
  | c :: a, h => by
    rw [List.cons_append, List.cons_append, cutSub, if_neg, cut_at b fun d hd => h d (List.mem_cons_of_mem _ hd)]
    · rfl
    · rw [List.isPrefixOf_iff_prefix]
      rintro ⟨q, hq⟩
      injection hq with h1 _
      exact h c (List.mem_cons_self ..) h1.symm
def spanL (ahead : Int) (many : Nat) : List UInt8 := Lib.itoa (if 0 < many then ahead + 1 else ahead) ++ [44] ++ Lib.itoa many
theorem itoa_nat (n : Nat) : Lib.itoa n = Lib.decDigits n := by
  unfold Lib.itoa
  rw [if_neg (by omega)]; rfl
def atAt : List UInt8 := [64, 64, 32, 45]
def endAt : List UInt8 := [32, 64, 64]
def headL (a : Int) (x : Nat) (b : Int) (y : Nat) : List UInt8 := atAt ++ (spanL a x ++ [32, 43] ++ spanL b y ++ endAt)
theorem span_chars {a : Int} {m : Nat} (h0 : 0 ≤ a) (h1 : a < 999) (hm : m < 1000) {c : UInt8} (hc : c ∈ spanL a m) : c.toNat = 44 ∨ (48 ≤ c.toNat ∧ c.toNat ≤ 57) := by
  obtain ⟨x, hx, hx3⟩ : ∃ x : Nat, (if 0 < m then a + 1 else a) = (x : Int) ∧ x < 1000 := ⟨(if 0 < m then a + 1 else a).toNat, by split <;> omega, by split <;> omega⟩
  unfold spanL at hc
  rw [hx, itoa_nat, itoa_nat] at hc
  rcases List.mem_append.1 hc with hc | hc
  · rcases List.mem_append.1 hc with hc | hc
    · exact .inr (dec_digit hx3 hc)
    · rw [List.mem_singleton.1 hc]; exact .inl rfl
  · exact .inr (dec_digit hm hc)
end Go.Proofs.YtmjpfoeaobdaeaaGreatDoor
namespace Go.Proofs.YtmjpfoeaobdaeaaGreatDoor

def signOf (m : Mark) : UInt8 := UInt8.ofNat m.sign.toNat
def markL (m : Mark) : List UInt8 := signOf m :: m.text.data.toList
def hunkL (h : Hunk) : List (List UInt8) := headL h.old (oldN h.marks) h.new (newN h.marks) :: h.marks.map markL
def linesU (l : List Hunk) : List (List UInt8) := l.flatMap hunkL
def textL (l : List (List UInt8)) : List UInt8 := (l.map fun x => x ++ [10]).flatten
def textU (l : List Hunk) : List UInt8 := textL (linesU l)
def SignOk (m : Mark) : Prop := m.sign = 32 ∨ m.sign = 45 ∨ m.sign = 43
theorem oldN_cons (m : Mark) (ms : List Mark) : oldN (m :: ms) = (if m.sign ≠ 43 then 1 else 0) + oldN ms := by
  unfold oldN those
  rw [List.filter_cons]
  by_cases h : m.sign = 43
  · rw [if_neg (by simp [h]), if_neg (by simp [h]), Nat.zero_add]
  · rw [if_pos (by simp [h]), if_pos h, List.map_cons, List.length_cons, Nat.add_comm]
theorem newN_cons (m : Mark) (ms : List Mark) : newN (m :: ms) = (if m.sign ≠ 45 then 1 else 0) + newN ms := by
  unfold newN those
  rw [List.filter_cons]
  by_cases h : m.sign = 45
  · rw [if_neg (by simp [h]), if_neg (by simp [h]), Nat.zero_add]
  · rw [if_pos (by simp [h]), if_pos h, List.map_cons, List.length_cons, Nat.add_comm]
def HeadOk (h : Hunk) : Prop := 0 ≤ h.old ∧ h.old < 999 ∧ 0 ≤ h.new ∧ h.new < 999 ∧ oldN h.marks < 1000 ∧ newN h.marks < 1000 ∧ ∀ m ∈ h.marks, SignOk m
end Go.Proofs.YtmjpfoeaobdaeaaGreatDoor
namespace Go.Proofs.YtmjpfoeaobdaeaaGreatDoor

theorem mark_ok {m : Mark} (h : markFault m = 0) : SignOk m ∧ (∀ c ∈ m.text.data.toList, c ≠ 10) ∧ m.text.size ≤ 80 := by
  unfold markFault at h
  by_cases hs : m.sign ≠ 32 ∧ m.sign ≠ 45 ∧ m.sign ≠ 43
  · rw [if_pos hs] at h; cases h
  · rw [if_neg hs] at h
    unfold lineFault at h
    cases hn : hasNl m.text with
    | true => rw [hn] at h; cases h
    | false =>
      rw [hn] at h
      refine ⟨?_, fun c hc e => ?_, ?_⟩
      · unfold SignOk
        by_cases h1 : m.sign = 32
        · exact .inl h1
        · by_cases h2 : m.sign = 45
          · exact .inr (.inl h2)
          · by_cases h3 : m.sign = 43
            · exact .inr (.inr h3)
            · exact absurd ⟨h1, h2, h3⟩ hs
      · subst e
        unfold hasNl at hn
        rw [List.contains_iff_mem.2 hc] at hn; cases hn
      · by_cases hz : 80 < m.text.size
        · rw [if_neg (by decide), if_pos hz] at h; cases h
        · omega
theorem marks_ok {ms : List Mark} (h : scriptFault ms = 0) : ∀ m ∈ ms, markFault m = 0 := by
  unfold scriptFault at h
  by_cases hl : 120 < ms.length
  · rw [if_pos hl] at h; cases h
  · rw [if_neg hl] at h
    exact (firstOf_zero markFault ms).1 h
theorem one_ok {h : Hunk} {fin more : Int} (e : oneFault h fin more = 0) : (∀ m ∈ h.marks, markFault m = 0) ∧ 0 ≤ h.old ∧ 0 ≤ h.new ∧ h.old + oldN h.marks ≤ 60 ∧ h.new + newN h.marks ≤ 60 ∧ fin ≤ h.old ∧ h.new = h.old + more := by
  unfold oneFault at e
  by_cases h1 : scriptFault h.marks ≠ 0
  · rw [if_pos h1] at e; exact absurd e h1
  · rw [if_neg h1] at e
    by_cases h2 : hasChange h.marks = false
    · rw [if_pos h2] at e; cases e
    · rw [if_neg h2] at e
      by_cases h3 : h.old < 0 ∨ 60 < h.old ∨ h.new < 0 ∨ 60 < h.new ∨ 60 < h.old + oldN h.marks ∨ 60 < h.new + newN h.marks
      · rw [if_pos h3] at e; cases e
      · rw [if_neg h3] at e
        by_cases h4 : h.old < fin ∨ h.new ≠ h.old + more
        · rw [if_pos h4] at e; cases e
        · refine ⟨marks_ok (by simpa using h1), ?_, ?_, ?_, ?_, ?_, ?_⟩ <;> omega
theorem one_head {h : Hunk} {fin more : Int} (e : oneFault h fin more = 0) : HeadOk h := by
  obtain ⟨q1, q2, q3, q4, q5, _⟩ := one_ok e
  exact ⟨q2, by omega, q3, by omega, by omega, by omega, fun m hm => (mark_ok (q1 m hm)).1⟩
theorem dec_len {n : Nat} (h : n < 1000) : (Lib.decDigits n).length ≤ 3 := by rw [digits_three h]; exact dec3_len n h
theorem span_len {a : Int} {m : Nat} (h0 : 0 ≤ a) (h1 : a < 999) (hm : m < 1000) : (spanL a m).length ≤ 7 := by
  obtain ⟨x, hx, hx3⟩ : ∃ x : Nat, (if 0 < m then a + 1 else a) = (x : Int) ∧ x < 1000 := ⟨(if 0 < m then a + 1 else a).toNat, by split <;> omega, by split <;> omega⟩
  unfold spanL
  rw [hx, itoa_nat, itoa_nat, List.length_append, List.length_append]
  have := dec_len hx3
  have := dec_len hm
  simp only [List.length_singleton]
  omega
theorem head_len {h : Hunk} (hh : HeadOk h) : (headL h.old (oldN h.marks) h.new (newN h.marks)).length ≤ 23 := by
  obtain ⟨h1, h2, h3, h4, h5, h6, _⟩ := hh
  have := span_len h1 h2 h5
  have := span_len h3 h4 h6
  unfold headL atAt endAt
  simp only [List.length_append, List.length_cons, List.length_nil]
  omega
theorem marks_len : ∀ (ms : List Mark), (∀ m ∈ ms, markFault m = 0) → (textL (ms.map markL)).length ≤ 82 * (oldN ms + newN ms)
  | [], _ => by simp [textL]
  | m :: ms, h => by
    have ih := marks_len ms fun k hk => h k (List.mem_cons_of_mem _ hk)
    obtain ⟨q1, _, q3⟩ := mark_ok (h m (List.mem_cons_self ..))
    have e : (textL ((m :: ms).map markL)).length = m.text.size + 2 + (textL (ms.map markL)).length := by
      show (markL m ++ [10] ++ textL (ms.map markL)).length = _
      unfold markL
      simp only [List.length_append, List.length_cons, List.length_nil, Array.length_toList, ByteArray.size_data]
    rw [e, oldN_cons, newN_cons]
    have : 1 ≤ (if m.sign ≠ 43 then 1 else 0) + (if m.sign ≠ 45 then 1 else 0) := by
      rcases q1 with q | q | q <;> rw [q] <;> decide
    omega
theorem textL_app (a b : List (List UInt8)) : textL (a ++ b) = textL a ++ textL b := by unfold textL; rw [List.map_append, List.flatten_append]
theorem hunk_len {h : Hunk} {fin more : Int} (e : oneFault h fin more = 0) : (textL (hunkL h)).length ≤ 24 + 82 * (oldN h.marks + newN h.marks) := by
  have h1 := head_len (one_head e)
  have h2 := marks_len h.marks (one_ok e).1
  have : (textL (hunkL h)).length = (headL h.old (oldN h.marks) h.new (newN h.marks)).length + 1 + (textL (h.marks.map markL)).length := by
    show (headL h.old (oldN h.marks) h.new (newN h.marks) ++ [10] ++ textL (h.marks.map markL)).length = _
    simp only [List.length_append, List.length_singleton]
  omega
theorem go_ok : ∀ (l : List Hunk) (i : Nat) (fin more : Int), fin ≤ 60 → fin + more ≤ 60 → (hunksGo i fin more l).2 = 0 →
    (∀ h ∈ l, HeadOk h) ∧ (∀ x ∈ linesU l, ∀ c ∈ x, c ≠ 10) ∧ ((textL (linesU l)).length : Int) ≤ 24 * l.length + 82 * ((60 - fin) + (60 - fin - more))
  | [], _, fin, more, h1, h2, _ => ⟨fun _ h => (by cases h), fun _ h => (by cases h), by show (0 : Int) ≤ 24 * 0 + _; omega⟩
  | h :: l, i, fin, more, h1, h2, e => by
    rw [hunksGo] at e
    by_cases h0 : oneFault h fin more = 0
    · rw [if_pos h0] at e
      obtain ⟨q1, q2, q3, q4, q5, q6, q7⟩ := one_ok h0
      obtain ⟨i1, i2, i3⟩ := go_ok l (i + 1) (h.old + oldN h.marks) (more + newN h.marks - oldN h.marks) (by omega) (by omega) e
      have hl := hunk_len h0
      have eu : linesU (h :: l) = hunkL h ++ linesU l := rfl
      refine ⟨fun k hk => ?_, fun x hx c hc => ?_, ?_⟩
      · rcases List.mem_cons.1 hk with rfl | hk
        · exact one_head h0
        · exact i1 k hk
      · rw [eu] at hx
        rcases List.mem_append.1 hx with hx | hx
        · obtain ⟨a1, a2, a3, a4, a5, a6, a7⟩ := one_head h0
          rcases List.mem_cons.1 hx with rfl | hx
          · have dig : ∀ {a : Int} {m : Nat}, 0 ≤ a → a < 999 → m < 1000 → ∀ d ∈ spanL a m, d ≠ 10 := fun b0 b1 b2 d hd e => by
              have := span_chars b0 b1 b2 hd
              rw [e] at this
              exact absurd this (by decide)
            unfold headL atAt endAt at hc
            intro e
            rcases List.mem_append.1 hc with hc | hc
            · rw [e] at hc; exact absurd hc (by decide)
            · rcases List.mem_append.1 hc with hc | hc
              · rcases List.mem_append.1 hc with hc | hc
                · rcases List.mem_append.1 hc with hc | hc
                  · exact dig a1 a2 a5 c hc e
                  · rw [e] at hc; exact absurd hc (by decide)
                · exact dig a3 a4 a6 c hc e
              · rw [e] at hc; exact absurd hc (by decide)
          · obtain ⟨m, hm, rfl⟩ := List.mem_map.1 hx
            obtain ⟨s1, s2, _⟩ := mark_ok (q1 m hm)
            rcases List.mem_cons.1 hc with rfl | hc
            · unfold signOf
              rcases s1 with s | s | s <;> rw [s] <;> decide
            · exact s2 c hc
        · exact i2 x hx c hc
      · rw [eu, textL_app, List.length_append, List.length_cons]
        omega
    · rw [if_neg h0] at e
      exact absurd e h0
theorem hunks_ok {l : List Hunk} (e : (hunksFault l).2 = 0) : (∀ h ∈ l, HeadOk h) ∧ (∀ x ∈ linesU l, ∀ c ∈ x, c ≠ 10) ∧ (textU l).length ≤ 400000 := by
  unfold hunksFault at e
  by_cases hl : 60 < l.length
  · rw [if_pos hl] at e; cases e
  · rw [if_neg hl] at e
    obtain ⟨h1, h2, h3⟩ := go_ok l 0 0 0 (by decide) (by decide) e
    refine ⟨h1, h2, ?_⟩
    show (textL (linesU l)).length ≤ _
    omega
end Go.Proofs.YtmjpfoeaobdaeaaGreatDoor
namespace Go.Proofs.YtmjpfoeaobdaeaaGreatDoor

def noneL : List UInt8 := [47, 100, 101, 118, 47, 110, 117, 108, 108]
def mmL : List UInt8 := [45, 45, 45, 32]
def ppL : List UInt8 := [43, 43, 43, 32]
def fromL (w : Int) (p : List UInt8) : List UInt8 := if w = 2 then noneL else [97, 47] ++ p
def toL (w : Int) (p : List UInt8) : List UInt8 := if w = 3 then noneL else [98, 47] ++ p
def changeL (c : Change) : List (List UInt8) := (mmL ++ fromL c.what c.path.data.toList) :: (ppL ++ toL c.what c.path.data.toList) :: linesU c.hunks
def linesG (p : List Change) : List (List UInt8) := p.flatMap changeL
end Go.Proofs.YtmjpfoeaobdaeaaGreatDoor
namespace Go.Proofs.YtmjpfoeaobdaeaaGreatDoor

end Go.Proofs.YtmjpfoeaobdaeaaGreatDoor
