/-
  PARTS: THE WALKS of errors.Join of no error, and of patch.Turn.; THE WALK of handstitchsame.Trees.; THE LAW PatchBack, walked.; FROM TREE TO TREE, in plain Lean: what is found between two trees is a patch and leads from the one to the other; between a tree and itself there is nothing.; THE LAW PatchMakes, walked.
-/
import Derived.Test.YtjiaidchcldocaaGreatDoorPg16
import Derived.Test.YtjiaidchcldocaaGreatDoorPg10
import Derived.Test.YtjiaidchcldocaaGreatDoorPg18
import Derived.Test.YtjiaidchcldocaaGreatDoorPg14
import Derived.StillTailTactics
import Derived.Test.YtjiaidchcldocaaGreatDoorPg33
import Derived.Test.YtjiaidchcldocaaGreatDoorPg6
import Derived.Test.YtjiaidchcldocaaGreatDoorPg30
set_option linter.unusedVariables false
set_option linter.unusedSimpArgs false
namespace Go.Proofs.YtjiaidchcldocaaGreatDoor
open Go.RowKit

/-- an error that is none, as a cell -/
instance : Dat Unit where
  n := 1
  rd _ _ cs _ := cs = [.nilIface]
  bulk _ := 1
  pos := by decide
  len := by rintro _ _ _ _ rfl; rfl
  one := by rintro _ _ _ _ rfl u hu; simp at hu; subst hu; rfl
  keep := by intro _ _ _ _ _ _ _ h _ _ _; exact h
/-! ### patch.Turn -/
/-- both rows at the head of a round -/
structure TurnSt (w wr : World) (vO vF : Value) (L : List Change) (n : Nat) : Prop where
  out : Own 85 wr (fun j => vF.ownBlock = some j) vO L
  flt : Own 26 wr (fun j => vO.ownBlock = some j) vF (List.replicate n ())
  newO : ∀ k, vO.ownBlock = some k → w.heap.size ≤ k
  newF : ∀ k, vF.ownBlock = some k → w.heap.size ≤ k
  chg : Chg Never w wr
end Go.Proofs.YtjiaidchcldocaaGreatDoor
namespace Go.Proofs.YtjiaidchcldocaaGreatDoor
open Go.RowKit

set_option maxHeartbeats 1000000 in
set_option maxRecDepth 100000 in
theorem trees_any (l m : List File) (v u : Value) (w : World) (h : Rdv w Never v l) (g : Rdv w Never u m) :
    Calls Tryz.prog 23 #[v, u] w fun e w' => e = .returned (.bool (decide (l = m))) ∧ Chg Never w w' := by
  obtain ⟨a, cap, rfl, h1, h2, h3⟩ := rdv_slice h
  obtain ⟨c, cap', rfl, g1, g2, g3⟩ := rdv_slice g
  unfold maxLen at h2 g2
  by_cases h4 : l.length = m.length
  · have h4' : ((l.length : Int) != m.length) = false := by simp [h4]
    have H4 := Lib.hid h4
    clear h4
    go_enter Tryz.func23, Tryz.ntmps23
    go_wp2_with fail
    go_loopw [5] (fun i wr => ∃ k : Nat, k ≤ l.length ∧ i = .int .i64 k ∧ Hid (l.take k = m.take k) ∧ Chg Never w wr) (fun i _ => l.length - (intOf i).toNat)
    case atStart => exact ⟨0, Nat.zero_le _, rfl, by simp [Hid], Chg.refl _ _⟩
    case round =>
      obtain ⟨k, hk, rfl, hf, hc⟩ := hrel
      by_cases hlt : k < l.length
      · obtain ⟨x, hx⟩ : ∃ x, l[k]? = some x := ⟨l[k], by simp [hlt]⟩
        obtain ⟨y, hy⟩ : ∃ y, m[k]? = some y := ⟨m[k]'(by rw [← H4.out]; exact hlt), by simp [H4.out ▸ hlt]⟩
        obtain ⟨b, off, mv, rfl, _, _, c0, c1, _, hmv⟩ := elems_file h3 hx
        obtain ⟨b', off', mv', rfl, _, _, d0, d1, _, hmv'⟩ := elems_file g3 hy
        have C0 := Lib.hid c0
        have D0 := Lib.hid d0
        have c1 := hc.cellNever c1
        have d1 := hc.cellNever d1
        have hmv := hmv.never hc
        have hmv' := hmv'.never hc
        clear h3 g3 h g c0 d0
        have hlm : k < m.length := by rw [← H4.out]; exact hlt
        have HX := Lib.hid hx
        have HY := Lib.hid hy
        clear hx hy
        have b1 : (k : Int) < l.length := by omega
        have b2 : (k : Int) < m.length := by omega
        go_wp2_with fail
        refine wp_region_still_tail 10 (by kernel_rfl) (by kernel_rfl) ?_
        simp only [List.take_succ_cons, List.take_zero, List.drop_succ_cons, List.drop_zero]
        change wpStill _ _ wr.drew _ _ _
        repeat still_step
        refine wpStill_nil ?_
        change wpList _ _ _ _ _ wr.drew
        have hcd : Chg Never w wr.drew := hc.drew
        have hmd := hmv.never ((Chg.refl Never wr).drew)
        have hmd' := hmv'.never ((Chg.refl Never wr).drew)
        generalize wr.drew = w3 at hcd hmd hmd'
        clear hmv hmv' c1 d1 hc
        go_wp2_with fail
        refine (texts_any x.lines y.lines _ _ _ hmd hmd').mono ?_
        rintro e w4 ⟨rfl, hc4⟩
        have hc5 := hcd.trans hc4
        have c0 := hc5.cellNever C0.out
        have d0 := hc5.cellNever D0.out
        clear hmd hmd' hcd hc4
        by_cases hls : x.lines = y.lines
        · rw [decide_eq_true hls]
          by_cases hpp : x.path = y.path
          · have hxy : x = y := by
              cases x; cases y
              simp only at hls hpp
              rw [hls, hpp]
            subst hxy
            go_wp2_with fail
            go_quiet (fail)
            go_wp2_with fail
            go_roundw
            case rel => exact ⟨k + 1, by omega, by go_num, take_same hf HX.out HY.out, hc5.drewN _⟩
            case measure => simp [intOf] <;> omega
          · have hxy : x ≠ y := fun e => hpp (by rw [e])
            have t1 := str_beq_false hpp
            have HN := Lib.hid (decide_eq_false (ne_of_get HX.out HY.out hxy))
            clear hls hpp hxy
            go_wp2_with fail
            go_quiet (fail)
            go_wp2_with fail
            go_ret
            exact ⟨by rw [HN.out]; rfl, hc5.drewN _⟩
        · have hxy : x ≠ y := fun e => hls (by rw [e])
          have HN := Lib.hid (decide_eq_false (ne_of_get HX.out HY.out hxy))
          rw [decide_eq_false hls]
          clear hls hxy
          go_wp2_with fail
          go_quiet (fail)
          go_wp2_with fail
          go_ret
          exact ⟨by rw [HN.out]; rfl, hc5.drewN _⟩
      · go_wp2_with fail
        go_ret
        have E : l = m := by
          have := hf.out
          rw [List.take_of_length_le (by omega), List.take_of_length_le (by rw [← H4.out]; omega)] at this
          exact this
        exact ⟨by rw [decide_eq_true E]; rfl, hc⟩
  · have h4' : ((l.length : Int) != m.length) = true := by simp; omega
    go_enter Tryz.func23, Tryz.ntmps23
    go_wp2_with fail
    go_ret
    exact ⟨by rw [decide_eq_false (fun e => h4 (by rw [e]))]; rfl, Chg.refl _ _⟩
end Go.Proofs.YtjiaidchcldocaaGreatDoor
namespace Go.Proofs.YtjiaidchcldocaaGreatDoor
open Go.RowKit

theorem applyGo_nil : ∀ (p : List Change) (i : Nat) (t : List File), (applyGo i t p).2.2 ≠ 0 → (applyGo i t p).1 = []
  | [], _, _, h => absurd rfl h
  | c :: r, i, t, h => by
    rw [applyGo] at h ⊢
    by_cases e : (stepOf (look t c.path) c).2 ≠ 0
    · rw [if_pos e]
    · rw [if_neg e] at h ⊢
      exact applyGo_nil r _ _ h
theorem applyR_nil {t : List File} {p : List Change} (h : (applyR t p).2.2 ≠ 0) : (applyR t p).1 = [] := by
  unfold applyR at h ⊢
  split
  · rfl
  · split
    · rfl
    · split
      · rename_i h1 h2 h3
        exact applyGo_nil _ _ _ h3
      · split
        · rfl
        · rename_i h1 h2 h3 h4
          rw [if_neg h1, if_neg h2, if_neg h3, if_neg h4] at h
          exact absurd rfl h
end Go.Proofs.YtjiaidchcldocaaGreatDoor
namespace Go.Proofs.YtjiaidchcldocaaGreatDoor

theorem script_puts : ∀ y : List ByteArray, script [] y = y.map fun x => ⟨43, x⟩
  | [] => by rw [script]; rfl
  | x :: r => by rw [script, script_puts r]; rfl
theorem script_takes : ∀ y : List ByteArray, script y [] = y.map fun x => ⟨45, x⟩
  | [] => by rw [script]; rfl
  | x :: r => by rw [script, script_takes r]; rfl
theorem changes_map (s : Int) (hs : s ≠ 32) (y : List ByteArray) : changes (y.map fun x => (⟨s, x⟩ : Mark)) = y.length := by
  unfold changes
  rw [List.filter_eq_self.2, List.length_map]
  intro m hm
  obtain ⟨x, _, rfl⟩ := List.mem_map.1 hm
  simpa using hs
theorem wholeR_cut (s : Int) (hs : s ≠ 32) (y : List ByteArray) (h : y.length ≤ 60) : wholeR y s = cutOf (y.map fun x => ⟨s, x⟩) 200 := by
  rw [cut_200 (by rw [List.length_map]; omega), changes_map s hs]
  unfold wholeR
  cases y with
  | nil => rfl
  | cons x r => rw [if_neg (by simp), if_neg (by simp)]
theorem wholeR_shape (y : List ByteArray) (s : Int) : wholeB (wholeR y s) s = true := by
  unfold wholeR
  by_cases h : y = []
  · rw [if_pos h]; rfl
  · rw [if_neg h]
    unfold wholeB
    simp
theorem whole_put {y : List ByteArray} (h : linesFault y = 0) : hunksFault (wholeR y 43) = (0, 0) ∧ strict [] (wholeR y 43) = (y, 0, 0) := by
  have := strict_cut (a := []) (b := y) (n := 200) (checkedFault_zero.2 ⟨rfl, h⟩) (by omega) (by omega)
  rw [script_puts, ← wholeR_cut 43 (by decide) y (linesFault_zero.1 h).1] at this
  exact ⟨this.2.2.1, this.2.1⟩
theorem whole_take {y : List ByteArray} (h : linesFault y = 0) : hunksFault (wholeR y 45) = (0, 0) ∧ strict y (wholeR y 45) = ([], 0, 0) := by
  have := strict_cut (a := y) (b := []) (n := 200) (checkedFault_zero.2 ⟨h, rfl⟩) (by omega) (by omega)
  rw [script_takes, ← wholeR_cut 45 (by decide) y (linesFault_zero.1 h).1] at this
  exact ⟨this.2.2.1, this.2.1⟩
theorem chg_facts {n : Int} (h0 : 0 ≤ n) (h1 : n ≤ 1000) {p : ByteArray} (hp : pathFault p = 0) {x y : Option (List ByteArray)} (hx : ∀ l, x = some l → linesFault l = 0) (hy : ∀ l, y = some l → linesFault l = 0) :
    (∀ c ∈ chg n p x y, c.path = p ∧ changeFault c = 0 ∧ stepOf x c = (y, 0)) ∧ (chg n p x y = [] → x = y) ∧ (chg n p x y).length ≤ 1 := by
  cases x with
  | none =>
    cases y with
    | none => exact ⟨fun c hc => (by cases hc), fun _ => rfl, by simp [chg]⟩
    | some y =>
      obtain ⟨w1, w2⟩ := whole_put (hy y rfl)
      refine ⟨fun c hc => ?_, fun h => (by cases h), by simp [chg]⟩
      rw [show c = ⟨2, p, wholeR y 43⟩ from List.mem_singleton.1 hc]
      refine ⟨rfl, changeFault_of (by simp) (by simp) hp w1 ?_, ?_⟩
      · unfold shapeB
        rw [if_pos rfl]
        exact wholeR_shape y 43
      · unfold stepOf
        simp only [Option.getD_none]
        simp [w2]
  | some x =>
    cases y with
    | none =>
      obtain ⟨w1, w2⟩ := whole_take (hx x rfl)
      refine ⟨fun c hc => ?_, fun h => (by cases h), by simp [chg]⟩
      rw [show c = ⟨3, p, wholeR x 45⟩ from List.mem_singleton.1 hc]
      refine ⟨rfl, changeFault_of (by simp) (by simp) hp w1 ?_, ?_⟩
      · unfold shapeB
        rw [if_neg (by simp), if_pos rfl]
        exact wholeR_shape x 45
      · unfold stepOf
        simp only [Option.getD_some]
        simp [w2]
    | some y =>
      obtain ⟨w0, w1, w2, _⟩ := strict_cut (checkedFault_zero.2 ⟨hx x rfl, hy y rfl⟩) h0 h1
      unfold chg
      simp only
      by_cases e : cutOf (script x y) n = []
      · rw [if_pos e]
        refine ⟨fun c hc => (by cases hc), fun _ => ?_, by simp⟩
        rw [e] at w1
        have q : strict x [] = (x, 0, 0) := by
          unfold strict
          have hl := (linesFault_zero.1 (hx x rfl)).1
          rw [if_neg (by simp [hx x rfl]), if_neg (by decide), strictGo]
          rw [if_neg (by simp; omega)]
          simp
        rw [q] at w1
        exact congrArg some (Prod.mk.inj w1).1
      · rw [if_neg e]
        refine ⟨fun c hc => ?_, fun h => (by cases h), by simp⟩
        rw [show c = ⟨1, p, cutOf (script x y) n⟩ from List.mem_singleton.1 hc]
        refine ⟨rfl, changeFault_of (by simp) (by simp) hp w2 ?_, ?_⟩
        · unfold shapeB
          rw [if_neg (by simp), if_neg (by simp)]
          cases hh : cutOf (script x y) n with
          | nil => exact absurd hh e
          | cons _ _ => rfl
        · unfold stepOf
          simp only [Option.getD_some]
          simp [w1]
theorem all_len : ∀ (b a : List File), Sorted a → (allOf a b).length ≤ a.length + b.length
  | [], a, _ => by unfold allOf; simp
  | x :: r, a, h => by
    have := all_len r (putAt a x) (putAt_sorted h x)
    have e := putAt_len h x
    rw [show allOf a (x :: r) = allOf (putAt a x) r from rfl]
    split at e <;> simp only [List.length_cons] <;> omega
theorem flat_sorted {g : File → List Change} : ∀ {L : List File}, Sorted L → (∀ f ∈ L, (∀ c ∈ g f, c.path = f.path) ∧ (g f).length ≤ 1) → SortedC (L.flatMap g) ∧ (L.flatMap g).length ≤ L.length
  | [], _, _ => ⟨List.Pairwise.nil, Nat.le_refl _⟩
  | f :: r, h, hg => by
    obtain ⟨h1, h2⟩ := List.pairwise_cons.1 h
    obtain ⟨i1, i2⟩ := flat_sorted h2 fun x hx => hg x (List.mem_cons_of_mem _ hx)
    obtain ⟨g1, g2⟩ := hg f (List.mem_cons_self ..)
    rw [List.flatMap_cons]
    refine ⟨List.pairwise_append.2 ⟨?_, i1, fun c hc d hd => ?_⟩, by rw [List.length_append, List.length_cons]; omega⟩
    · match hh : g f with
      | [] => exact List.Pairwise.nil
      | [_] => exact List.pairwise_singleton _ _
      | _ :: _ :: _ => rw [hh] at g2; simp at g2
    · obtain ⟨x, hx, hd⟩ := List.mem_flatMap.1 hd
      rw [g1 c hc, (hg x (List.mem_cons_of_mem _ hx)).1 d hd]
      exact h1 x hx
theorem tree_linesAt {a : List File} (ha : Tree a) (p : ByteArray) : ∀ l, look a p = some l → linesFault l = 0 ∧ pathFault p = 0 := by
  intro l h
  obtain ⟨x, hx, rfl, rfl⟩ := look_some h
  obtain ⟨q1, q2⟩ := fileFault_zero (ha.2.1 x hx)
  exact ⟨q2, q1⟩
theorem ref_facts {a b : List File} (ha : Tree a) (hb : Tree b) {n : Int} (h0 : 0 ≤ n) (h1 : n ≤ 1000) {f : File} (hf : f ∈ allOf a b) :
    (∀ c ∈ chg n f.path (look a f.path) (look b f.path), c.path = f.path ∧ changeFault c = 0 ∧ stepOf (look a f.path) c = (look b f.path, 0)) ∧ (chg n f.path (look a f.path) (look b f.path) = [] → look a f.path = look b f.path) ∧ (chg n f.path (look a f.path) (look b f.path)).length ≤ 1 := by
  have hl := look_mem (all_sorted b a ha.2.2) hf
  rw [all_look f.path b a ha.2.2 hb.2.2] at hl
  have hp : pathFault f.path = 0 := by
    cases hx : look b f.path with
    | some l => exact (tree_linesAt hb _ l hx).2
    | none =>
      rw [hx] at hl
      exact (tree_linesAt ha _ _ hl).2
  exact chg_facts h0 h1 hp (fun l h => (tree_linesAt ha _ l h).1) (fun l h => (tree_linesAt hb _ l h).1)
/-- what is found between two trees is a patch and leads from the one to the other -/
theorem diff_leads {a b : List File} (ha : Tree a) (hb : Tree b) {n : Int} (h0 : 0 ≤ n) (h1 : n ≤ 1000) : Patch (diffL n a b) ∧ Leads a (diffL n a b) b := by
  rw [← diff_same n ha.2.2 hb.2.2]
  unfold refDiff
  have hs := all_sorted b a ha.2.2
  obtain ⟨s1, s2⟩ := flat_sorted (g := fun f => chg n f.path (look a f.path) (look b f.path)) hs fun f hf => ⟨fun c hc => ((ref_facts ha hb h0 h1 hf).1 c hc).1, (ref_facts ha hb h0 h1 hf).2.2⟩
  have hl := all_len b a ha.2.2
  have a8 := ha.1
  have b8 := hb.1
  refine ⟨⟨by omega, fun c hc => ?_, s1⟩, fun c hc => ?_, fun q hq => ?_⟩
  · obtain ⟨f, hf, hc⟩ := List.mem_flatMap.1 hc
    exact ((ref_facts ha hb h0 h1 hf).1 c hc).2.1
  · obtain ⟨f, hf, hc⟩ := List.mem_flatMap.1 hc
    obtain ⟨e1, _, e3⟩ := (ref_facts ha hb h0 h1 hf).1 c hc
    rw [e1]
    exact e3
  · cases hx : look (allOf a b) q with
    | none =>
      rw [all_look q b a ha.2.2 hb.2.2] at hx
      cases hy : look b q with
      | some l => rw [hy] at hx; cases hx
      | none =>
        rw [hy] at hx
        exact hx.symm
    | some l =>
      obtain ⟨f, hf, rfl, _⟩ := look_some hx
      refine ((ref_facts ha hb h0 h1 hf).2.1 ?_).symm
      cases hh : chg n f.path (look a f.path) (look b f.path) with
      | nil => rfl
      | cons c r =>
        have hm : c ∈ chg n f.path (look a f.path) (look b f.path) := by rw [hh]; exact List.mem_cons_self ..
        exact absurd ((ref_facts ha hb h0 h1 hf).1 c hm).1 (hq c (List.mem_flatMap.2 ⟨f, hf, hm⟩))
theorem diff_makes {a b : List File} (ha : Tree a) (hb : Tree b) {n : Int} (h0 : 0 ≤ n) (h1 : n ≤ 1000) : applyR a (diffL n a b) = (b, 0, 0) ∧ applyR b (turnP (diffL n a b)) = (a, 0, 0) := by
  obtain ⟨q1, q2⟩ := diff_leads ha hb h0 h1
  have := applyR_of ha q1 hb.2.2 hb.1 q2
  exact ⟨this, apply_back this⟩
end Go.Proofs.YtjiaidchcldocaaGreatDoor
namespace Go.Proofs.YtjiaidchcldocaaGreatDoor
open Go.RowKit

theorem diffFault_zero {a b : List File} {n : Int} (h : diffFault a b n = 0) : (treeFault a).2 = 0 ∧ (treeFault b).2 = 0 ∧ 0 ≤ n ∧ n ≤ 1000 := by
  unfold diffFault at h
  split at h
  · rename_i h1; exact absurd h h1
  · rename_i h1
    split at h
    · rename_i h2; exact absurd h h2
    · rename_i h2
      split at h
      · cases h
      · rename_i h3
        refine ⟨by simpa using h1, by simpa using h2, by omega, by omega⟩
end Go.Proofs.YtjiaidchcldocaaGreatDoor
