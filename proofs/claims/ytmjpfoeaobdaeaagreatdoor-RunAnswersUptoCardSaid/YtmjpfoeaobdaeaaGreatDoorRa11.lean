/-
  PARTS: FROM TREE TO TREE, in plain Lean: what is found between two trees is a patch and leads from the one to the other; between a tree and itself there is nothing.; MORE ON SLICES THAT append HAS BUILT.; THE WALKS of patch.all and of the document's whole.; WHAT THE DOCUMENT'S WAY BETWEEN TWO TREES NEEDS, in plain Lean: places and lookups, the merged list's length, what Make answers of valid lines.; CHANGES AS CELLS, and handstitchsame.Patches.; MORE ON ROWS THAT append HAS BUILT, whose elements lie elsewhere.
-/
import Derived.Test.YtmjpfoeaobdaeaaGreatDoorRa10
import Derived.Test.YtmjpfoeaobdaeaaGreatDoorRa2
import Derived.Test.YtmjpfoeaobdaeaaGreatDoorRa5
import Derived.Test.YtmjpfoeaobdaeaaGreatDoorRa6
import Derived.Test.YtmjpfoeaobdaeaaGreatDoorRa8
import Derived.Test.YtmjpfoeaobdaeaaGreatDoorRa4
import Derived.StillTailTactics
import Derived.Test.YtmjpfoeaobdaeaaGreatDoorRa9
set_option linter.unusedVariables false
set_option linter.unusedSimpArgs false
namespace Go.Proofs.YtmjpfoeaobdaeaaGreatDoor

theorem script_puts : ∀ y : List ByteArray, script [] y = y.map fun x => ⟨43, x⟩
  | [] => by rw [script]; rfl
  | x :: r => by rw [script, script_puts r]; rfl
theorem script_takes : ∀ y : List ByteArray, script y [] = y.map fun x => ⟨45, x⟩
  | [] => by rw [script]; rfl
  | x :: r => by rw [script, script_takes r]; rfl
theorem script_self : ∀ y : List ByteArray, script y y = y.map fun x => ⟨32, x⟩
  | [] => by rw [script]; rfl
  | x :: r => by rw [script, if_pos rfl, script_self r]; rfl
theorem changes_map (s : Int) (hs : s ≠ 32) (y : List ByteArray) : changes (y.map fun x => (⟨s, x⟩ : Mark)) = y.length := by
  unfold changes
  rw [List.filter_eq_self.2, List.length_map]
  intro m hm
  obtain ⟨x, _, rfl⟩ := List.mem_map.1 hm
  simpa using hs
theorem wholeR_cut (s : Int) (hs : s ≠ 32) (y : List ByteArray) (h : y.length ≤ 60) : wholeR y s = cutOf (y.map fun x => ⟨s, x⟩) 200 := by
  rw [cut_200 (by rw [List.length_map]; omega), changes_map s hs]
  unfold wholeR
  cases y with
  | nil => rfl
  | cons x r => rw [if_neg (by simp), if_neg (by simp)]
theorem wholeR_shape (y : List ByteArray) (s : Int) : wholeB (wholeR y s) s = true := by
  unfold wholeR
  by_cases h : y = []
  · rw [if_pos h]; rfl
  · rw [if_neg h]
    unfold wholeB
    simp
theorem whole_put {y : List ByteArray} (h : linesFault y = 0) : hunksFault (wholeR y 43) = (0, 0) ∧ strict [] (wholeR y 43) = (y, 0, 0) := by
  have := strict_cut (a := []) (b := y) (n := 200) (checkedFault_zero.2 ⟨rfl, h⟩) (by omega) (by omega)
  rw [script_puts, ← wholeR_cut 43 (by decide) y (linesFault_zero.1 h).1] at this
  exact ⟨this.2.2.1, this.2.1⟩
theorem whole_take {y : List ByteArray} (h : linesFault y = 0) : hunksFault (wholeR y 45) = (0, 0) ∧ strict y (wholeR y 45) = ([], 0, 0) := by
  have := strict_cut (a := y) (b := []) (n := 200) (checkedFault_zero.2 ⟨h, rfl⟩) (by omega) (by omega)
  rw [script_takes, ← wholeR_cut 45 (by decide) y (linesFault_zero.1 h).1] at this
  exact ⟨this.2.2.1, this.2.1⟩
theorem chg_facts {n : Int} (h0 : 0 ≤ n) (h1 : n ≤ 1000) {p : ByteArray} (hp : pathFault p = 0) {x y : Option (List ByteArray)} (hx : ∀ l, x = some l → linesFault l = 0) (hy : ∀ l, y = some l → linesFault l = 0) :
    (∀ c ∈ chg n p x y, c.path = p ∧ changeFault c = 0 ∧ stepOf x c = (y, 0)) ∧ (chg n p x y = [] → x = y) ∧ (chg n p x y).length ≤ 1 := by
  cases x with
  | none =>
    cases y with
    | none => exact ⟨fun c hc => (by cases hc), fun _ => rfl, by simp [chg]⟩
    | some y =>
      obtain ⟨w1, w2⟩ := whole_put (hy y rfl)
      refine ⟨fun c hc => ?_, fun h => (by cases h), by simp [chg]⟩
      rw [show c = ⟨2, p, wholeR y 43⟩ from List.mem_singleton.1 hc]
      refine ⟨rfl, changeFault_of (by simp) (by simp) hp w1 ?_, ?_⟩
      · unfold shapeB
        rw [if_pos rfl]
        exact wholeR_shape y 43
      · unfold stepOf
        simp only [Option.getD_none]
        simp [w2]
  | some x =>
    cases y with
    | none =>
      obtain ⟨w1, w2⟩ := whole_take (hx x rfl)
      refine ⟨fun c hc => ?_, fun h => (by cases h), by simp [chg]⟩
      rw [show c = ⟨3, p, wholeR x 45⟩ from List.mem_singleton.1 hc]
      refine ⟨rfl, changeFault_of (by simp) (by simp) hp w1 ?_, ?_⟩
      · unfold shapeB
        rw [if_neg (by simp), if_pos rfl]
        exact wholeR_shape x 45
      · unfold stepOf
        simp only [Option.getD_some]
        simp [w2]
    | some y =>
      obtain ⟨w0, w1, w2, _⟩ := strict_cut (checkedFault_zero.2 ⟨hx x rfl, hy y rfl⟩) h0 h1
      unfold chg
      simp only
      by_cases e : cutOf (script x y) n = []
      · rw [if_pos e]
        refine ⟨fun c hc => (by cases hc), fun _ => ?_, by simp⟩
        rw [e] at w1
        have q : strict x [] = (x, 0, 0) := by
          unfold strict
          have hl := (linesFault_zero.1 (hx x rfl)).1
          rw [if_neg (by simp [hx x rfl]), if_neg (by decide), strictGo]
          rw [if_neg (by simp; omega)]
          simp
        rw [q] at w1
        exact congrArg some (Prod.mk.inj w1).1
      · rw [if_neg e]
        refine ⟨fun c hc => ?_, fun h => (by cases h), by simp⟩
        rw [show c = ⟨1, p, cutOf (script x y) n⟩ from List.mem_singleton.1 hc]
        refine ⟨rfl, changeFault_of (by simp) (by simp) hp w2 ?_, ?_⟩
        · unfold shapeB
          rw [if_neg (by simp), if_neg (by simp)]
          cases hh : cutOf (script x y) n with
          | nil => exact absurd hh e
          | cons _ _ => rfl
        · unfold stepOf
          simp only [Option.getD_some]
          simp [w1]
theorem all_len : ∀ (b a : List File), Sorted a → (allOf a b).length ≤ a.length + b.length
  | [], a, _ => by unfold allOf; simp
  | x :: r, a, h => by
    have := all_len r (putAt a x) (putAt_sorted h x)
    have e := putAt_len h x
    rw [show allOf a (x :: r) = allOf (putAt a x) r from rfl]
    split at e <;> simp only [List.length_cons] <;> omega
theorem flat_sorted {g : File → List Change} : ∀ {L : List File}, Sorted L → (∀ f ∈ L, (∀ c ∈ g f, c.path = f.path) ∧ (g f).length ≤ 1) → SortedC (L.flatMap g) ∧ (L.flatMap g).length ≤ L.length
  | [], _, _ => ⟨List.Pairwise.nil, Nat.le_refl _⟩
  | f :: r, h, hg => by
    obtain ⟨h1, h2⟩ := List.pairwise_cons.1 h
    obtain ⟨i1, i2⟩ := flat_sorted h2 fun x hx => hg x (List.mem_cons_of_mem _ hx)
    obtain ⟨g1, g2⟩ := hg f (List.mem_cons_self ..)
    rw [List.flatMap_cons]
    refine ⟨List.pairwise_append.2 ⟨?_, i1, fun c hc d hd => ?_⟩, by rw [List.length_append, List.length_cons]; omega⟩
    · match hh : g f with
      | [] => exact List.Pairwise.nil
      | [_] => exact List.pairwise_singleton _ _
      | _ :: _ :: _ => rw [hh] at g2; simp at g2
    · obtain ⟨x, hx, hd⟩ := List.mem_flatMap.1 hd
      rw [g1 c hc, (hg x (List.mem_cons_of_mem _ hx)).1 d hd]
      exact h1 x hx
theorem tree_linesAt {a : List File} (ha : Tree a) (p : ByteArray) : ∀ l, look a p = some l → linesFault l = 0 ∧ pathFault p = 0 := by
  intro l h
  obtain ⟨x, hx, rfl, rfl⟩ := look_some h
  obtain ⟨q1, q2⟩ := fileFault_zero (ha.2.1 x hx)
  exact ⟨q2, q1⟩
theorem ref_facts {a b : List File} (ha : Tree a) (hb : Tree b) {n : Int} (h0 : 0 ≤ n) (h1 : n ≤ 1000) {f : File} (hf : f ∈ allOf a b) :
    (∀ c ∈ chg n f.path (look a f.path) (look b f.path), c.path = f.path ∧ changeFault c = 0 ∧ stepOf (look a f.path) c = (look b f.path, 0)) ∧ (chg n f.path (look a f.path) (look b f.path) = [] → look a f.path = look b f.path) ∧ (chg n f.path (look a f.path) (look b f.path)).length ≤ 1 := by
  have hl := look_mem (all_sorted b a ha.2.2) hf
  rw [all_look f.path b a ha.2.2 hb.2.2] at hl
  have hp : pathFault f.path = 0 := by
    cases hx : look b f.path with
    | some l => exact (tree_linesAt hb _ l hx).2
    | none =>
      rw [hx] at hl
      exact (tree_linesAt ha _ _ hl).2
  exact chg_facts h0 h1 hp (fun l h => (tree_linesAt ha _ l h).1) (fun l h => (tree_linesAt hb _ l h).1)
theorem diff_leads {a b : List File} (ha : Tree a) (hb : Tree b) {n : Int} (h0 : 0 ≤ n) (h1 : n ≤ 1000) : Patch (diffL n a b) ∧ Leads a (diffL n a b) b := by
  rw [← diff_same n ha.2.2 hb.2.2]
  unfold refDiff
  have hs := all_sorted b a ha.2.2
  obtain ⟨s1, s2⟩ := flat_sorted (g := fun f => chg n f.path (look a f.path) (look b f.path)) hs fun f hf => ⟨fun c hc => ((ref_facts ha hb h0 h1 hf).1 c hc).1, (ref_facts ha hb h0 h1 hf).2.2⟩
  have hl := all_len b a ha.2.2
  have a8 := ha.1
  have b8 := hb.1
  refine ⟨⟨by omega, fun c hc => ?_, s1⟩, fun c hc => ?_, fun q hq => ?_⟩
  · obtain ⟨f, hf, hc⟩ := List.mem_flatMap.1 hc
    exact ((ref_facts ha hb h0 h1 hf).1 c hc).2.1
  · obtain ⟨f, hf, hc⟩ := List.mem_flatMap.1 hc
    obtain ⟨e1, _, e3⟩ := (ref_facts ha hb h0 h1 hf).1 c hc
    rw [e1]
    exact e3
  · cases hx : look (allOf a b) q with
    | none =>
      rw [all_look q b a ha.2.2 hb.2.2] at hx
      cases hy : look b q with
      | some l => rw [hy] at hx; cases hx
      | none =>
        rw [hy] at hx
        exact hx.symm
    | some l =>
      obtain ⟨f, hf, rfl, _⟩ := look_some hx
      refine ((ref_facts ha hb h0 h1 hf).2.1 ?_).symm
      cases hh : chg n f.path (look a f.path) (look b f.path) with
      | nil => rfl
      | cons c r =>
        have hm : c ∈ chg n f.path (look a f.path) (look b f.path) := by rw [hh]; exact List.mem_cons_self ..
        exact absurd ((ref_facts ha hb h0 h1 hf).1 c hm).1 (hq c (List.mem_flatMap.2 ⟨f, hf, hm⟩))
theorem diff_makes {a b : List File} (ha : Tree a) (hb : Tree b) {n : Int} (h0 : 0 ≤ n) (h1 : n ≤ 1000) : applyR a (diffL n a b) = (b, 0, 0) ∧ applyR b (turnP (diffL n a b)) = (a, 0, 0) := by
  obtain ⟨q1, q2⟩ := diff_leads ha hb h0 h1
  have := applyR_of ha q1 hb.2.2 hb.1 q2
  exact ⟨this, apply_back this⟩
theorem diff_self {a : List File} (ha : Sorted a) (n : Int) : diffL n a a = [] := by
  rw [← diff_same n ha ha]
  unfold refDiff
  rw [List.flatMap_eq_nil_iff]
  intro f _
  cases look a f.path with
  | none => rfl
  | some l =>
    show (if cutOf (script l l) n = [] then [] else _) = ([] : List Change)
    rw [if_pos]
    unfold cutOf
    refine cut_none (fun k => ?_) _ (Nat.le_refl _)
    rw [Bool.eq_false_iff]
    intro h
    obtain ⟨i, m, e1, e2, _⟩ := inAt_iff.1 h
    rw [script_self] at e1
    obtain ⟨x, _, rfl⟩ := List.mem_map.1 (List.mem_of_getElem? e1)
    exact e2 rfl
end Go.Proofs.YtmjpfoeaobdaeaaGreatDoor
namespace Go.Proofs.YtmjpfoeaobdaeaaGreatDoor
open Go.RowKit

theorem own_out {α : Type} [Dat α] {e : TypeId} {w : World} {O : Nat → Prop} {v : Value} {l : List α} (h : Own e w O v l) : ∀ k, v.ownBlock = some k → ¬ O k := by
  obtain ⟨_, _, q, _⟩ := h
  exact q
end Go.Proofs.YtmjpfoeaobdaeaaGreatDoor
namespace Go.Proofs.YtmjpfoeaobdaeaaGreatDoor
open Go.RowKit

theorem wholeR_nil (s : Int) : wholeR [] s = [] := if_pos rfl
theorem wholeR_some {l : List ByteArray} (h : l ≠ []) (s : Int) : wholeR l s = [⟨0, 0, l.map fun x => ⟨s, x⟩⟩] := if_neg h
theorem sign_take {l : List ByteArray} {k : Nat} {x : ByteArray} {s : Int} (hx : l[k]? = some x) : (l.take (k + 1)).map (fun x => (⟨s, x⟩ : Mark)) = (l.take k).map (fun x => (⟨s, x⟩ : Mark)) ++ [⟨s, x⟩] := by
  rw [List.take_add_one, hx]; simp
theorem rdv_hunkO {w : World} {O : Nat → Prop} {x : Hunk} {mv : Value} {t : TypeId} (h : Rdv w O mv x.marks) (hO : ¬ O w.heap.size) : Rdv (w.alloc (.cells #[.int .i64 x.old, .int .i64 x.new, mv] t)) O (.slice (some ⟨w.heap.size, 0, none⟩) 1 1) [x] := by
  refine ⟨some ⟨w.heap.size, 0, none⟩, 1, rfl, Nat.le_refl _, by decide, ?_⟩
  intro i y hy
  obtain rfl : i = 0 := by
    cases i with
    | zero => rfl
    | succ i => simp at hy
  simp only [List.getElem?_cons_zero, Option.some.injEq] at hy
  subst hy
  refine ⟨w.heap.size, 0, [.int .i64 x.old, .int .i64 x.new, mv], rfl, hO, ?_, ⟨mv, rfl, h.never ((Chg.refl Never w).alloc _)⟩⟩
  intro j u hj
  simp only [World.cell?, heap_alloc_new]
  simpa using hj
set_option maxHeartbeats 2000000 in
set_option maxRecDepth 100000 in
theorem all_any (l : List ByteArray) (s : Int) (v : Value) (w : World) (h : Rdv w Never v l) (s0 : 0 ≤ s) (s1 : s < 256) (hl : l.length ≤ 1000000) :
    Calls Tryz.prog 82 #[v, .int .u8 s] w fun e w' => ∃ r, e = .returned r ∧ Chg Never w w' ∧ Rdv w' (Old w.heap.size) r (wholeR l s) := by
  obtain ⟨a, cap, rfl, h1, h2, h3⟩ := rdv_slice h
  unfold maxLen at h2
  by_cases hn : l = []
  · subst hn
    rw [wholeR_nil]
    go_enter Tryz.func82, Tryz.ntmps82
    go_wp2_with fail
    go_ret
    exact ⟨_, rfl, Chg.refl _ _, rdv_nil _ _⟩
  · have hpos : 0 < l.length := List.length_pos_iff.2 hn
    have t0 : ((l.length : Int) == 0) = false := by simp; omega
    have HN := Lib.hid hn
    clear hn
    have hB0 := Blk3.new w 146 (.int .i64 0) (.int .i64 0) (.slice none 0 0)
    have hc0 : Chg Never w (w.alloc (.cells #[.int .i64 0, .int .i64 0, .slice none 0 0] 146)) := (Chg.refl Never w).alloc _
    go_enter Tryz.func82, Tryz.ntmps82
    go_wp2_with fail
    generalize w.alloc (.cells #[.int .i64 0, .int .i64 0, .slice none 0 0] 146) = wA at hB0 hc0 ⊢
    generalize hBe : w.heap.size = B at hB0 ⊢
    have hBge : w.heap.size ≤ B := Nat.le_of_eq hBe
    clear hBe
    go_loopw [13] (fun i wr => ∃ (j : Nat) (mv : Value), j ≤ l.length ∧ i = .int .i64 j ∧ Chg Never w wr ∧ Blk3 wr B 146 (.int .i64 0) (.int .i64 0) mv ∧ Own 148 wr (Old (B + 1)) mv ((l.take j).map fun x => (⟨s, x⟩ : Mark))) (fun i _ => l.length - (intOf i).toNat)
    case atStart => exact ⟨0, .slice none 0 0, Nat.zero_le _, rfl, hc0, hB0, own_nil _ _ _⟩
    case round =>
      clear hc0 hB0
      obtain ⟨j, mv, hj, rfl, hc, hB, hmk⟩ := hrel
      obtain ⟨qa, qn, qc, rfl⟩ := own_isSlice hmk
      obtain ⟨f0, f1, f2⟩ := hB.cell
      have hBlt := hB.lt
      by_cases hlt : j < l.length
      · obtain ⟨x, hx⟩ : ∃ x, l[j]? = some x := ⟨l[j], by simp [hlt]⟩
        obtain ⟨b, off, rfl, _, _, c0, hxs⟩ := elems_str h3 hx
        have c0 := hc.cellNever c0
        have HX := Lib.hid hx
        have hOm : ∀ q, Old (B + 1) q → q < wr.heap.size := fun q hq => by unfold Old at hq; omega
        have hml : ((l.take j).map fun x => (⟨s, x⟩ : Mark)).length ≤ 1000000000 := by rw [List.length_map, List.length_take]; omega
        clear hx h3 h
        go_wp2_with (at_builtin; refine wpList_push (by rfl) _ _ 102 (by rfl) elemOk_mark (O := Old (B + 1)) (l := (l.take j).map fun x => (⟨s, x⟩ : Mark)) (y := ⟨s, x⟩) (by rfl) (by rfl) (by simp) hmk (rd_mark _ _ s x s0 s1 hxs) hOm hml ?_; intro mv' w5 hmk5 hc2 _; obtain ⟨sa, sn, sc, rfl⟩ := own_isSlice hmk5; have hB5 := hB.keep hc2 (fun hh => own_out hmk _ hh (Nat.lt_succ_self _)); have hc5 := hc.trans' hc2 (fun i hi hh => own_out hmk i hh (by unfold Old; omega)); obtain ⟨g0, g1, g2⟩ := hB5.cell; have g3 := hB5.free 2; clear hc2)
        have hB6 := hB5.set2 (.slice sa sn sc)
        have hmk6 := hmk5.keep (O' := fun q => q = B) (O'' := Old (B + 1)) ((Chg.refl (fun q => q = B) w5).setCell (p := ⟨B, 2, none⟩) (.inr rfl) (.slice sa sn sc)) (fun q _ hq => by have h : q = B := hq; unfold Old; omega) (fun _ _ hh => hh)
        have hc6 := hc5.setCell (p := ⟨B, 2, none⟩) (.inl hBge) (.slice sa sn sc)
        clear g0 g1 g2 g3 hB5 hmk5 hc5 hB hmk hc
        go_roundw
        case rel => exact ⟨j + 1, .slice sa sn sc, by omega, by go_num, hc6, hB6, by rw [sign_take HX.out]; exact hmk6⟩
        case measure => simp [intOf] <;> omega
      · obtain rfl : j = l.length := by omega
        rw [List.take_length] at hmk
        have hr := hmk.rdv.sub (O' := Old w.heap.size) (fun k _ h => by unfold Old at *; omega)
        have hl1 := rdv_hunkO (x := ⟨0, 0, l.map fun x => ⟨s, x⟩⟩) (t := 146) hr (fun h => absurd hc.size (Nat.not_le_of_lt h))
        go_wp2_with fail
        go_ret
        exact ⟨_, rfl, hc.alloc _, by rw [wholeR_some HN.out]; exact hl1⟩

set_option maxHeartbeats 2000000 in
set_option maxRecDepth 100000 in
theorem refWhole_any (l : List ByteArray) (s : Int) (v : Value) (w : World) (h : Rdv w Never v l) (s0 : 0 ≤ s) (s1 : s < 256) (hl : l.length ≤ 1000000) :
    Calls Tryz.prog 52 #[v, .int .u8 s] w fun e w' => ∃ r, e = .returned r ∧ Chg Never w w' ∧ Rdv w' (Old w.heap.size) r (wholeR l s) := by
  obtain ⟨a, cap, rfl, h1, h2, h3⟩ := rdv_slice h
  unfold maxLen at h2
  have hB0 := Blk3.new w 146 (.int .i64 0) (.int .i64 0) (.slice none 0 0)
  have hc0 : Chg Never w (w.alloc (.cells #[.int .i64 0, .int .i64 0, .slice none 0 0] 146)) := (Chg.refl Never w).alloc _
  go_enter Tryz.func52, Tryz.ntmps52
  go_wp2_with fail
  generalize w.alloc (.cells #[.int .i64 0, .int .i64 0, .slice none 0 0] 146) = wA at hB0 hc0 ⊢
  generalize hBe : w.heap.size = B at hB0 ⊢
  have hBge : w.heap.size ≤ B := Nat.le_of_eq hBe
  clear hBe
  go_loopw [6] (fun i wr => ∃ (j : Nat) (mv : Value), j ≤ l.length ∧ i = .int .i64 j ∧ Chg Never w wr ∧ Blk3 wr B 146 (.int .i64 0) (.int .i64 0) mv ∧ Own 148 wr (Old (B + 1)) mv ((l.take j).map fun x => (⟨s, x⟩ : Mark))) (fun i _ => l.length - (intOf i).toNat)
  case atStart => exact ⟨0, .slice none 0 0, Nat.zero_le _, rfl, hc0, hB0, own_nil _ _ _⟩
  case round =>
    clear hc0 hB0
    obtain ⟨j, mv, hj, rfl, hc, hB, hmk⟩ := hrel
    obtain ⟨qa, qn, qc, rfl⟩ := own_isSlice hmk
    have hBlt := hB.lt
    by_cases hlt : j < l.length
    · obtain ⟨x, hx⟩ : ∃ x, l[j]? = some x := ⟨l[j], by simp [hlt]⟩
      obtain ⟨b, off, rfl, _, _, c0, hxs⟩ := elems_str h3 hx
      have c0 := hc.cellNever c0
      have HX := Lib.hid hx
      have hOm : ∀ q, Old (B + 1) q → q < wr.drew.heap.size := fun q hq => by
        have e : wr.drew.heap.size = wr.heap.size := rfl
        rw [e]; unfold Old at hq; omega
      have hml : ((l.take j).map fun x => (⟨s, x⟩ : Mark)).length ≤ 1000000000 := by rw [List.length_map, List.length_take]; omega
      clear hx h3 h
      obtain ⟨f0, f1, f2⟩ := hB.cell
      have hB' := hB.keep (O := Never) (Chg.refl Never wr).drew (fun h => h)
      have hmk' := hmk.never (Chg.refl Never wr).drew
      have hc' := hc.drew
      clear hB hmk
      go_wp2_with fail
      go_region_law ((refine step_push (by rfl) _ _ 102 (by rfl) elemOk_mark (O := Old (B + 1)) (l := (l.take j).map fun x => (⟨s, x⟩ : Mark)) (y := ⟨s, x⟩) (by rfl) (by rfl) (by simp) hmk' (rd_mark _ _ s x s0 s1 hxs) hOm hml ?_; intro v' w5 hmk5 hc2 hk2; obtain ⟨ad, nn, cc, rfl⟩ := own_slice hk2; have hB5 := hB'.keep hc2 (fun hh => own_out hmk' _ hh (Nat.lt_succ_self _)); obtain ⟨g0, g1, g2⟩ := hB5.cell; have g3 := hB5.free 2))
      all_goals
        have hB6 := hB5.set2 (.slice (some ad) nn cc)
        have hmk6 := hmk5.keep (O' := fun q => q = B) (O'' := Old (B + 1)) ((Chg.refl (fun q => q = B) w5).setCell (p := ⟨B, 2, none⟩) (.inr rfl) (.slice (some ad) nn cc)) (fun q _ hq => by have h : q = B := hq; unfold Old; omega) (fun _ _ hh => hh)
        have hc6 := (hc'.trans' hc2 (fun i hi hh => own_out hmk' i hh (by unfold Old; omega))).setCell (p := ⟨B, 2, none⟩) (.inl hBge) (.slice (some ad) nn cc)
        clear g0 g1 g2 g3 hB5 hmk5 hc2 hk2 hB' hmk' hc' hc f0 f1 f2
        go_wp2_with fail
        go_roundw
        case rel => exact ⟨j + 1, .slice (some ad) nn cc, by omega, by go_num, hc6, hB6, by rw [sign_take HX.out]; exact hmk6⟩
        case measure => simp [intOf] <;> omega
    · obtain rfl : j = l.length := by omega
      rw [List.take_length] at hmk
      by_cases hn : l = []
      · have t0 : ((l.length : Int) == 0) = true := by rw [hn]; rfl
        have HN : Hid (wholeR l s = []) := if_pos hn
        clear hn hB hmk
        go_wp2_with fail
        go_ret
        exact ⟨_, rfl, hc, by rw [HN.out]; exact rdv_nil _ _⟩
      · have hpos : 0 < l.length := List.length_pos_iff.2 hn
        have t0 : ((l.length : Int) == 0) = false := by simp; omega
        have HN := Lib.hid hn
        clear hn
        obtain ⟨f0, f1, f2⟩ := hB.cell
        have hr := hmk.rdv.sub (O' := Old w.heap.size) (fun k _ h => by unfold Old at *; omega)
        have hl1 := rdv_hunkO (x := ⟨0, 0, l.map fun x => ⟨s, x⟩⟩) (t := 146) hr (fun h => absurd hc.size (Nat.not_le_of_lt h))
        go_wp2_with fail
        go_ret
        exact ⟨_, rfl, hc.alloc _, by rw [wholeR_some HN.out]; exact hl1⟩
end Go.Proofs.YtmjpfoeaobdaeaaGreatDoor
namespace Go.Proofs.YtmjpfoeaobdaeaaGreatDoor

theorem place_cons (x : File) (r : List File) (p : ByteArray) : placeOf (x :: r) p = if x.path = p then some 0 else (placeOf r p).map (· + 1) := by
  unfold placeOf
  rw [List.findIdx?_cons]
  by_cases h : x.path = p
  · rw [if_pos h, decide_eq_true h]; rfl
  · rw [if_neg h, decide_eq_false h]; rfl
theorem place_look : ∀ (t : List File) (p : ByteArray), (placeOf t p = none ∧ look t p = none) ∨ ∃ i f, placeOf t p = some i ∧ t[i]? = some f ∧ look t p = some f.lines
  | [], p => .inl ⟨rfl, rfl⟩
  | x :: r, p => by
    rw [place_cons, look_cons]
    by_cases h : x.path = p
    · exact .inr ⟨0, x, if_pos h, rfl, if_pos h⟩
    · rw [if_neg h, if_neg h]
      rcases place_look r p with ⟨h1, h2⟩ | ⟨i, f, h1, h2, h3⟩
      · exact .inl ⟨by rw [h1]; rfl, h2⟩
      · exact .inr ⟨i + 1, f, by rw [h1]; rfl, by rw [List.getElem?_cons_succ]; exact h2, h3⟩
theorem placeI_look (t : List File) (p : ByteArray) : (placeI t p = -1 ∧ look t p = none) ∨ ∃ (i : Nat) (f : File), placeI t p = i ∧ t[i]? = some f ∧ look t p = some f.lines := by
  rcases place_look t p with ⟨h1, h2⟩ | ⟨i, f, h1, h2, h3⟩
  · exact .inl ⟨by unfold placeI; rw [h1], h2⟩
  · exact .inr ⟨i, f, by unfold placeI; rw [h1], h2, h3⟩
theorem allOf_len : ∀ (b a : List File), Sorted a → (allOf a b).length ≤ a.length + b.length
  | [], a, _ => Nat.le_refl _
  | x :: r, a, h => by
    have := allOf_len r (putAt a x) (putAt_sorted h x)
    have e := putAt_len h x
    have : (putAt a x).length ≤ a.length + 1 := by rw [e]; split <;> omega
    show (allOf (putAt a x) r).length ≤ _
    rw [List.length_cons]; omega
theorem all_step (a b : List File) {k : Nat} {x : File} (h : b[k]? = some x) : allOf a (b.take (k + 1)) = putAt (allOf a (b.take k)) x := by
  unfold allOf
  rw [List.take_add_one, h, List.foldl_append]; rfl
theorem all_known {a b : List File} (h : Sorted a) (g : Sorted b) {f : File} (hf : f ∈ allOf a b) : ¬ (look a f.path = none ∧ look b f.path = none) := by
  rintro ⟨h1, h2⟩
  have e := look_mem (all_sorted b a h) hf
  rw [all_look _ b a h g, h1, h2] at e
  cases e
theorem flat_take {β : Type} {g : File → List β} {l : List File} {k : Nat} {x : File} (h : l[k]? = some x) : (l.take (k + 1)).flatMap g = (l.take k).flatMap g ++ g x := by
  rw [List.take_add_one, h, List.flatMap_append]; simp
theorem fileFault_lines {f : File} (h : fileFault f = 0) : linesFault f.lines = 0 := by
  unfold fileFault at h
  by_cases e : pathFault f.path = 0
  · rwa [if_pos e] at h
  · rw [if_neg e] at h; exact absurd h e
theorem checked_zero {x y : List ByteArray} (h : linesFault x = 0) (g : linesFault y = 0) : checkedFault x y = 0 := by unfold checkedFault; rw [if_pos h]; exact g
theorem make_valid {x y : List ByteArray} {n : Int} (h : linesFault x = 0) (g : linesFault y = 0) (n0 : 0 ≤ n) (n1 : n ≤ 1000) : makeFault x y n = 0 ∧ makeR x y n = cutOf (script x y) n := by
  have hc := checked_zero h g
  have hs := script_valid hc
  have e1 : (oldOf (script x y)).length = oldN (script x y) := rfl
  have e2 : (newOf (script x y)).length = newN (script x y) := rfl
  rw [script_old] at e1
  rw [script_new] at e2
  have l1 := linesFault_len h
  have l2 := linesFault_len g
  have hcut : cutFault (script x y) n = 0 := by
    unfold cutFault
    rw [if_neg (by rw [hs]; decide), if_neg (by omega), if_neg (by omega)]
  exact ⟨by unfold makeFault; rw [if_neg (by rw [hc]; decide)]; exact hcut, by unfold makeR cutR; rw [if_pos hc, if_pos hcut]⟩
theorem diffL_take {n : Int} {x : File} {a b : List File} (h : b = [] ∨ ∃ y r, b = y :: r ∧ less x.path y.path = true) : diffL n (x :: a) b = ⟨3, x.path, wholeR x.lines 45⟩ :: diffL n a b := by
  rcases h with rfl | ⟨y, r, rfl, h⟩
  · rw [diffL]
  · rw [diffL, if_pos h]
theorem diffL_put {n : Int} {y : File} {a b : List File} (h : a = [] ∨ ∃ x r, a = x :: r ∧ ¬ less x.path y.path = true ∧ less y.path x.path = true) : diffL n a (y :: b) = ⟨2, y.path, wholeR y.lines 43⟩ :: diffL n a b := by
  rcases h with rfl | ⟨x, r, rfl, h, g⟩
  · rw [diffL]
  · rw [diffL, if_neg h, if_pos g]
theorem diffL_both {n : Int} {x y : File} {a b : List File} (h : ¬ less x.path y.path = true) (g : ¬ less y.path x.path = true) : diffL n (x :: a) (y :: b) = chg n x.path (some x.lines) (some y.lines) ++ diffL n a b := by
  rw [diffL, if_neg h, if_neg g]
theorem diffL_nil (n : Int) : diffL n [] [] = [] := by rw [diffL]
theorem chg_none {n : Int} {p : ByteArray} {x y : List ByteArray} (h : cutOf (script x y) n = []) : chg n p (some x) (some y) = [] := if_pos h
theorem chg_some {n : Int} {p : ByteArray} {x y : List ByteArray} (h : cutOf (script x y) n ≠ []) : chg n p (some x) (some y) = [⟨1, p, cutOf (script x y) n⟩] := if_neg h
end Go.Proofs.YtmjpfoeaobdaeaaGreatDoor
namespace Go.Proofs.YtmjpfoeaobdaeaaGreatDoor
open Go.RowKit

theorem elemOk_change : ElemOk Tryz.prog 62 100 3 := elemOk_of Tryz.underlying62 (z := .agg #[.int .i64 0, .string ⟨#[]⟩, .slice none 0 0]) (b := 48) (by kernel_rfl) rfl (by decide)
theorem elems_change {w : World} {O : Nat → Prop} {a : Option Addr} {l : List Change} (h : Elems w O a l) {i : Nat} {x : Change} (hx : l[i]? = some x) :
    ∃ b off v, a = some ⟨b, off, none⟩ ∧ ¬ O b ∧ b < w.heap.size ∧ w.cell? ⟨b, off + i * 3, none⟩ = some (.int .i64 x.what) ∧ w.cell? ⟨b, off + i * 3 + 1, none⟩ = some (.string x.path) ∧ w.cell? ⟨b, off + i * 3 + 2, none⟩ = some v ∧ x.path.size ≤ maxLen ∧ Rdv w O v x.hunks := by
  obtain ⟨b, off, es, ha, hb, hcs, v, rfl, hp, hv⟩ := h i x hx
  refine ⟨b, off, v, ha, hb, hcs.lt (by simp), ?_, ?_, ?_, hp, hv⟩
  · simpa [Dat.n] using hcs 0 _ rfl
  · simpa [Dat.n] using hcs 1 _ rfl
  · simpa [Dat.n] using hcs 2 _ rfl

theorem two_keep {w0 w w' : World} {a b : Addr} {x y : Value} (h : Chg Never w0 w ∧ w.cell? a = some x ∧ w.cell? b = some y) (hc : Chg Never w w') : Chg Never w0 w' ∧ w'.cell? a = some x ∧ w'.cell? b = some y :=
  ⟨h.1.trans hc, hc.cellNever h.2.1, hc.cellNever h.2.2⟩

end Go.Proofs.YtmjpfoeaobdaeaaGreatDoor
namespace Go.Proofs.YtmjpfoeaobdaeaaGreatDoor
open Go.RowKit

theorem OwnN.fresh {α β : Type} [Dat α] [Dat β] {e : TypeId} {w0 wr w' : World} {v u : Value} {l : List α} {x : β} (h : OwnN e w0 wr v l) (hu : Rdv w' (Old wr.heap.size) u x) : Rdv w' (fun k => Never k ∨ v.ownBlock = some k) u x :=
  hu.sub (fun k _ hh => by
    rcases hh with hh | hh
    · exact hh.elim
    · exact own_block_lt h.own k hh)
structure OwnO {α : Type} [Dat α] (e : TypeId) (w0 wr : World) (v : Value) (l : List α) : Prop where
  own : Own e wr (Old w0.heap.size) v l
  chg : Chg Never w0 wr
theorem ownO_nil {α : Type} [Dat α] (e : TypeId) {w0 wr : World} (h : Chg Never w0 wr) : OwnO e w0 wr (.slice none 0 0) ([] : List α) := ⟨own_nil _ _ _, h⟩
theorem OwnO.never {α : Type} [Dat α] {e : TypeId} {w0 wr w' : World} {v : Value} {l : List α} (h : OwnO e w0 wr v l) (hc : Chg Never wr w') : OwnO e w0 w' v l := ⟨h.own.never hc, h.chg.trans hc⟩
theorem OwnO.step1 {α : Type} [Dat α] {e : TypeId} {w0 wr w' : World} {v v' : Value} {l l' : List α} (h : OwnO e w0 wr v l) (hown : Own e w' (Old w0.heap.size) v' l') (hc : Chg (OwnB v) wr w') : OwnO e w0 w' v' l' := ⟨hown, own_step h.chg h.own hc⟩
theorem OwnO.fresh {α β : Type} [Dat α] [Dat β] {e : TypeId} {w0 wr w' : World} {v u : Value} {l : List α} {x : β} (h : OwnO e w0 wr v l) (hu : Rdv w' (Old wr.heap.size) u x) : Rdv w' (fun k => Old w0.heap.size k ∨ v.ownBlock = some k) u x :=
  hu.sub (fun k _ hh => by
    rcases hh with hh | hh
    · exact Nat.lt_of_lt_of_le hh h.chg.size
    · exact own_block_lt h.own k hh)
theorem OwnO.olds {α : Type} [Dat α] {e : TypeId} {w0 wr : World} {v : Value} {l : List α} (h : OwnO e w0 wr v l) : ∀ k, Old w0.heap.size k → k < wr.heap.size := fun _ hk => Nat.lt_of_lt_of_le hk h.chg.size
end Go.Proofs.YtmjpfoeaobdaeaaGreatDoor
