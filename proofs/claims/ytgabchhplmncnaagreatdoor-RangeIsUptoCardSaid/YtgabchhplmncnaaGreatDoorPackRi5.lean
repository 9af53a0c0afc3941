/-
  PARTS: THE WALKS of match.cost and texts.; THE WALK of handstitchsame.Ints.; THE WALKS of match.check and of the document's SquareFault: squares of costs.; A MAP FROM NUMBERS TO NUMBERS that the call has made: what it holds, as a function.; BITS OF SMALL NUMBERS at int. No program in sight.; THE WALK of match.least.; THE WALKS of match.choose, Match.; A ROW OF A BLOCK's CELLS, as a function of the place; a row of numbers that make([]int, n) has made.; MORE ON SLICES THAT append HAS BUILT.
-/
import Derived.Test.YtgabchhplmncnaaGreatDoorPackRi3
import Derived.Test.YtgabchhplmncnaaGreatDoorPackRi4
import Derived.Deep.RegionHeld3
import Derived.Test.YtgabchhplmncnaaGreatDoorPackRi1
import Derived.Test.YtgabchhplmncnaaGreatDoorPackRi2
import Derived.Maps.OwnOps
import Derived.Maps.Views
import Derived.Laws.Entries
namespace Go.Proofs.YtgabchhplmncnaaGreatDoor
open Go.RowKit

theorem rkeep2 {w2 wr wq : World} {p q : Addr} {a b : Value} (h : Chg Never w2 wr ∧ wr.cell? p = some a ∧ wr.cell? q = some b) (k : Chg Never wr wq) : Chg Never w2 wq ∧ wq.cell? p = some a ∧ wq.cell? q = some b :=
  ⟨h.1.trans k, k.cellNever h.2.1, k.cellNever h.2.2⟩
set_option maxHeartbeats 1000000 in
set_option maxRecDepth 100000 in
theorem cost_is (a b : List (List ByteArray)) (i k : Nat) (va vb : Value) (w : World) (ha : Rdv w Never va a) (hb : Rdv w Never vb b) (hla : ∀ x ∈ a, x.length ≤ 99000) (hlb : ∀ x ∈ b, x.length ≤ 99000) (_hi9 : i ≤ 1000000) (_hk9 : k ≤ 1000000) :
    Calls Tryz.prog 43 #[va, vb, .int .i64 i, .int .i64 k] w fun e w' => e = .returned (.int .i64 (rangeCost a b i k)) ∧ Chg Never w w' := by
  obtain ⟨a0, ca, rfl, a1, a2, a3⟩ := rdv_slice ha
  obtain ⟨b0, cb, rfl, b1, b2, b3⟩ := rdv_slice hb
  unfold maxLen at a2 b2
  by_cases hi : i < a.length
  · have ti : decide ((i : Int) < (a.length : Int)) = true := decide_eq_true (by omega)
    have tin : decide (i < a.length) = true := decide_eq_true hi
    obtain ⟨x, hx⟩ : ∃ x, a[i]? = some x := ⟨a[i], by simp [hi]⟩
    have hxl := hla x (List.mem_of_getElem? hx)
    obtain ⟨p, po, xv, rfl, -, -, c0, hxv⟩ := elems_row a3 hx
    by_cases hk : k < b.length
    · have tk : decide ((k : Int) < (b.length : Int)) = true := decide_eq_true (by omega)
      have tkn : decide (k < b.length) = true := decide_eq_true hk
      obtain ⟨y, hy⟩ : ∃ y, b[k]? = some y := ⟨b[k], by simp [hk]⟩
      have hyl := hlb y (List.mem_of_getElem? hy)
      obtain ⟨q, qo, yv, rfl, -, -, d0, hyv⟩ := elems_row b3 hy
      have HR : Hid (rangeCost a b i k = (diffN x y : Nat)) := by unfold Hid rangeCost; rw [hx, hy]
      have ib1 : (i : Int) < (a.length : Int) := by omega
      have ib2 : (k : Int) < (b.length : Int) := by omega
      clear a3 b3 ha hb hx hy
      go_enter Tryz.func43, Tryz.ntmps43
      go_wp2_with fail
      refine wp_region_held_drew (S := fun w' => Chg Never w w' ∧ w'.cell? ⟨p, po + i, none⟩ = some xv ∧ w'.cell? ⟨q, qo + k, none⟩ = some yv) (by kernel_rfl) ⟨(Chg.refl Never w).drew, c0, d0⟩ (fun hH => ?_)
      refine' wpAnyH_take (i := 0) ?hi0 (by kernel_rfl) (by kernel_rfl) (by kernel_rfl) ?hQ0 (Or.inl ⟨?hw0, ?hy0⟩) (by assumption) ?_
      case hi0 => (simp only [List.getElem?_toArray, List.getElem?_cons_zero]; rfl)
      case hQ0 => exact fun _ _ _ h => h
      case hw0 => rfl
      case hy0 => (intro w' hSw; (try dsimp only at hSw); go_simp; all_goals with_reducible rfl)
      try simp only [Act.put, List.setIfInBounds_toArray, List.set_cons_zero, List.set_cons_succ]
      refine' wpAnyH_take (i := 1) ?hi1 (by kernel_rfl) (by kernel_rfl) (by kernel_rfl) ?hQ1 (Or.inl ⟨?hw1, ?hy1⟩) (by assumption) ?_
      case hi1 => (simp only [List.getElem?_toArray, List.getElem?_cons_succ, List.getElem?_cons_zero]; rfl)
      case hQ1 => exact fun _ _ _ h => h
      case hw1 => rfl
      case hy1 => (intro w' hSw; (try dsimp only at hSw); go_simp; all_goals with_reducible rfl)
      try simp only [Act.put, List.setIfInBounds_toArray, List.set_cons_zero, List.set_cons_succ]
      refine' wpAnyH_take (i := 2) ?hi2 (by kernel_rfl) (by kernel_rfl) (by kernel_rfl) ?hQ2 (Or.inl ⟨?hw2, ?hy2⟩) (by assumption) ?_
      case hi2 => (simp only [List.getElem?_toArray, List.getElem?_cons_succ, List.getElem?_cons_zero]; rfl)
      case hQ2 => exact fun _ _ _ h => h
      case hw2 => rfl
      case hy2 => (intro w' hSw; (try dsimp only at hSw); go_simp; all_goals with_reducible rfl)
      try simp only [Act.put, List.setIfInBounds_toArray, List.set_cons_zero, List.set_cons_succ]
      refine' wpAnyH_take (i := 3) ?hi3 (by kernel_rfl) (by kernel_rfl) (by kernel_rfl) ?hQ3 (Or.inl ⟨?hw3, ?hy3⟩) (by assumption) ?_
      case hi3 => (simp only [List.getElem?_toArray, List.getElem?_cons_succ, List.getElem?_cons_zero]; rfl)
      case hQ3 => exact fun _ _ _ h => h
      case hw3 => rfl
      case hy3 => (intro w' hSw; (try dsimp only at hSw); go_simp; all_goals with_reducible rfl)
      try simp only [Act.put, List.setIfInBounds_toArray, List.set_cons_zero, List.set_cons_succ]
      refine' wpAnyH_take (i := 4) ?hi4 (by kernel_rfl) (by kernel_rfl) (by kernel_rfl) ?hQ4 (Or.inl ⟨?hw4, ?hy4⟩) (by assumption) ?_
      case hi4 => (simp only [List.getElem?_toArray, List.getElem?_cons_succ, List.getElem?_cons_zero]; rfl)
      case hQ4 => exact fun _ _ _ h => h
      case hw4 => rfl
      case hy4 => (intro w' hSw; (try dsimp only at hSw); go_simp; all_goals with_reducible rfl)
      try simp only [Act.put, List.setIfInBounds_toArray, List.set_cons_zero, List.set_cons_succ]
      refine' wpAnyH_take (i := 5) ?hi5 (by kernel_rfl) (by kernel_rfl) (by kernel_rfl) ?hQ5 (Or.inl ⟨?hw5, ?hy5⟩) (by assumption) ?_
      case hi5 => (simp only [List.getElem?_toArray, List.getElem?_cons_succ, List.getElem?_cons_zero]; rfl)
      case hQ5 => exact fun _ _ _ h => h
      case hw5 => rfl
      case hy5 => (intro w' hSw; (try dsimp only at hSw); go_simp; all_goals with_reducible rfl)
      try simp only [Act.put, List.setIfInBounds_toArray, List.set_cons_zero, List.set_cons_succ]
      refine' wpAnyH_take (i := 6) ?hi6 (by kernel_rfl) (by kernel_rfl) (by kernel_rfl) ?hQ6 (Or.inl ⟨?hw6, ?hy6⟩) (by assumption) ?_
      case hi6 => (simp only [List.getElem?_toArray, List.getElem?_cons_succ, List.getElem?_cons_zero]; rfl)
      case hQ6 => exact fun _ _ _ h => h
      case hw6 => rfl
      case hy6 => (intro w' hSw; (try dsimp only at hSw); go_simp; all_goals with_reducible rfl)
      try simp only [Act.put, List.setIfInBounds_toArray, List.set_cons_zero, List.set_cons_succ]
      refine' wpAnyH_take (i := 7) ?hi7 (by kernel_rfl) (by kernel_rfl) (by kernel_rfl) ?hQ7 (Or.inl ⟨?hw7, ?hy7⟩) (by assumption) ?_
      case hi7 => (simp only [List.getElem?_toArray, List.getElem?_cons_succ, List.getElem?_cons_zero]; rfl)
      case hQ7 => exact fun _ _ _ h => h
      case hw7 => rfl
      case hy7 => (intro w' hSw; (try dsimp only at hSw); go_simp; all_goals with_reducible rfl)
      try simp only [Act.put, List.setIfInBounds_toArray, List.set_cons_zero, List.set_cons_succ]
      refine wpAnyH_ready (rs := [8]) (by kernel_rfl) (by simp) ?_
      refine AllReadyH.cons rfl (fun K hK => ?_) AllReadyH.nil
      go_simp
      (go_at_call 90; refine (apart_any x y _ _ _ (hxv.never (And.left (by assumption))) (hyv.never (And.left (by assumption))) (by omega) (by omega)).mono ?_; rintro e wq ⟨rfl, hcq⟩; have hS2 := rkeep2 (by assumption) hcq)
      try go_wp2_with fail
      refine hK.out _ _ ?_ (fun hH => ?_)
      · assumption
      clear hK K
      try simp only [Act.put, List.setIfInBounds_toArray, List.set_cons_zero, List.set_cons_succ]
      refine' wpAnyH_take (i := 9) ?hi9 (by kernel_rfl) (by kernel_rfl) (by kernel_rfl) ?hQ9 (Or.inl ⟨?hw9, ?hy9⟩) (by assumption) ?_
      case hi9 => (simp only [List.getElem?_toArray, List.getElem?_cons_succ, List.getElem?_cons_zero]; rfl)
      case hQ9 => exact fun _ _ _ h => h
      case hw9 => rfl
      case hy9 => (intro w' hSw; (try dsimp only at hSw); go_simp; all_goals with_reducible rfl)
      try simp only [Act.put, List.setIfInBounds_toArray, List.set_cons_zero, List.set_cons_succ]
      refine wpAnyH_done (by kernel_rfl) ?_ _
      rename (Chg Never w _ ∧ _) => hF
      have hcF := hF.1
      clear hF
      go_wp2_with fail
      go_ret
      exact ⟨by rw [HR.out]; rfl, hcF⟩
    · have tk : decide ((k : Int) < (b.length : Int)) = false := decide_eq_false (by omega)
      have tkn : decide (k < b.length) = false := decide_eq_false hk
      have HR : Hid (rangeCost a b i k = (aloneN x : Nat)) := by unfold Hid rangeCost; rw [hx, List.getElem?_eq_none (by omega)]
      clear a3 b3 ha hb hx
      go_enter Tryz.func43, Tryz.ntmps43
      go_wp2_with fail
      refine (alone_any x _ _ hxv (by omega)).mono ?_
      rintro e w1 ⟨rfl, hc1⟩
      go_wp2_with fail
      go_ret
      exact ⟨by rw [HR.out]; rfl, hc1⟩
  · have ti : decide ((i : Int) < (a.length : Int)) = false := decide_eq_false (by omega)
    have tin : decide (i < a.length) = false := decide_eq_false hi
    by_cases hk : k < b.length
    · have tk : decide ((k : Int) < (b.length : Int)) = true := decide_eq_true (by omega)
      have tkn : decide (k < b.length) = true := decide_eq_true hk
      obtain ⟨y, hy⟩ : ∃ y, b[k]? = some y := ⟨b[k], by simp [hk]⟩
      have hyl := hlb y (List.mem_of_getElem? hy)
      obtain ⟨q, qo, yv, rfl, -, -, d0, hyv⟩ := elems_row b3 hy
      have HR : Hid (rangeCost a b i k = (aloneN y : Nat)) := by unfold Hid rangeCost; rw [hy, List.getElem?_eq_none (by omega)]
      clear a3 b3 ha hb hy
      go_enter Tryz.func43, Tryz.ntmps43
      go_wp2_with fail
      refine (alone_any y _ _ hyv (by omega)).mono ?_
      rintro e w1 ⟨rfl, hc1⟩
      go_wp2_with fail
      go_ret
      exact ⟨by rw [HR.out]; rfl, hc1⟩
    · have tk : decide ((k : Int) < (b.length : Int)) = false := decide_eq_false (by omega)
      have tkn : decide (k < b.length) = false := decide_eq_false hk
      have HR : Hid (rangeCost a b i k = 0) := by unfold Hid rangeCost; rw [List.getElem?_eq_none (by omega), List.getElem?_eq_none (by omega)]
      clear a3 b3 ha hb
      go_enter Tryz.func43, Tryz.ntmps43
      go_wp2_with fail
      go_ret
      exact ⟨by rw [HR.out]; rfl, Chg.refl _ _⟩

/-! ### a patch's text by lines -/
theorem linesG_ne (p : List Change) : ∀ x ∈ linesG p, x ≠ [] := by
  intro x hx
  unfold linesG at hx
  obtain ⟨c, -, hx⟩ := List.mem_flatMap.1 hx
  unfold changeL at hx
  rcases List.mem_cons.1 hx with rfl | hx
  · unfold mmL; simp
  · rcases List.mem_cons.1 hx with rfl | hx
    · unfold ppL; simp
    · unfold linesU at hx
      obtain ⟨h, -, hx⟩ := List.mem_flatMap.1 hx
      unfold hunkL at hx
      rcases List.mem_cons.1 hx with rfl | hx
      · unfold headL atAt; simp
      · obtain ⟨m, -, rfl⟩ := List.mem_map.1 hx
        unfold markL; simp
theorem textL_two : ∀ (ls : List (List UInt8)), (∀ x ∈ ls, x ≠ []) → 2 * ls.length ≤ (textL ls).length
  | [], _ => Nat.zero_le _
  | x :: ls, h => by
    have ih := textL_two ls fun y hy => h y (List.mem_cons_of_mem _ hy)
    have hx : 0 < x.length := List.length_pos_iff.2 (h x (List.mem_cons_self ..))
    show _ ≤ (x ++ [10] ++ textL ls).length
    simp only [List.length_append, List.length_cons, List.length_nil]
    omega
theorem linesG_few {p : List Change} (h : (patchFault p).2 = 0) : (linesG p).length ≤ 99000 := by
  obtain ⟨h1, h2⟩ := patch_each h
  have := (changes_ok p h2).2
  have := textL_two (linesG p) (linesG_ne p)
  have e : (textG p).length = (textL (linesG p)).length := rfl
  omega
theorem partsG {p : List Change} (h : (patchFault p).2 = 0) : parts 10 (textG p) = linesG p ++ [[]] := by
  obtain ⟨_, h2⟩ := patch_each h
  have := parts_text (linesG p) [] (changes_ok p h2).1
  rw [List.append_nil] at this
  exact this
def textsF (p : List (List Change)) : Int := if 4 < p.length then 3 else firstOf (fun c => (patchFault c).2) p
def textsR (p : List (List Change)) : List (List ByteArray) := if textsF p = 0 then p.map rtextOf else []
theorem elemOk_lines : ElemOk Tryz.prog 82 84 1 := elemOk_of Tryz.underlying82 (z := .slice none 0 0) (b := 24) (by kernel_rfl) rfl (by decide)
theorem firstOf_from {α : Type} {f : α → Int} {l : List α} {k : Nat} {x : α} (h : firstOf f (l.drop k) = firstOf f l) (hx : l[k]? = some x) : (f x = 0 → firstOf f (l.drop (k + 1)) = firstOf f l) ∧ (f x ≠ 0 → firstOf f l = f x) := by
  rw [drop_eq hx, firstOf] at h
  constructor
  · intro e; rw [if_pos e] at h; exact h
  · intro e; rw [if_neg e] at h; exact h.symm
theorem map_take_succ {α β : Type} {f : α → β} {l : List α} {k : Nat} {x : α} (hx : l[k]? = some x) : (l.take (k + 1)).map f = (l.take k).map f ++ [f x] := by
  rw [List.take_add_one, hx, Option.toList_some, List.map_append]; rfl
set_option maxHeartbeats 2000000 in
set_option maxRecDepth 100000 in
theorem rtexts_any (p : List (List Change)) (v : Value) (w : World) (h : Rdv w Never v p) (m : Int) (hm : w.cell? ⟨1, 0, none⟩ = some (.int .i64 m)) :
    Calls Tryz.prog 42 #[v] w fun e w' => ∃ r, e = .returned (.tuple #[r, errV (textsF p)]) ∧ Chg Never w w' ∧ Rdv w' (Old w.heap.size) r (textsR p) := by
  obtain ⟨a, cap, rfl, h1, h2, h3⟩ := rdv_slice h
  unfold maxLen at h2
  by_cases h4 : 4 < p.length
  · have HF : Hid (textsF p = 3) := if_pos h4
    have t4 : decide ((4 : Int) < (p.length : Int)) = true := decide_eq_true (by omega)
    go_enter Tryz.func42, Tryz.ntmps42
    go_wp2_with fail
    go_ret2
    exact ⟨_, by rw [HF.out, errV_pos (by decide)]; rfl, Chg.refl _ _, by rw [show textsR p = [] from if_neg (by rw [HF.out]; decide)]; exact rdv_nil _ _⟩
  · have HF : Hid (textsF p = firstOf (fun c => (patchFault c).2) p) := if_neg h4
    have t4 : decide ((4 : Int) < (p.length : Int)) = false := decide_eq_false (by omega)
    go_enter Tryz.func42, Tryz.ntmps42
    go_wp2_with fail
    go_loopw [4, 16] (fun ov iv wr => ∃ k : Nat, k ≤ p.length ∧ iv = .int .i64 k ∧ Chg Never w wr ∧ Own 84 wr (Old w.heap.size) ov ((p.take k).map rtextOf) ∧ Hid (firstOf (fun c => (patchFault c).2) (p.drop k) = firstOf (fun c => (patchFault c).2) p)) (fun _ iv _ => p.length - (intOf iv).toNat)
    case atStart => exact ⟨0, Nat.zero_le _, rfl, Chg.refl _ _, own_nil _ _ _, rfl⟩
    case round =>
      obtain ⟨k, hk, rfl, hc, hown, hf⟩ := hrel
      rename World => wr
      obtain ⟨va, vn, vc, rfl⟩ := own_isSlice hown
      by_cases hlt : k < p.length
      · obtain ⟨x, hx⟩ : ∃ x, p[k]? = some x := ⟨p[k], by simp [hlt]⟩
        obtain ⟨b, off, xv, rfl, -, -, c0, hxv⟩ := elems_row h3 hx
        have c0 := hc.cellNever c0
        have hMT := Lib.hid (map_take_succ (f := rtextOf) hx)
        obtain ⟨st1, st2⟩ := firstOf_from hf.out hx
        obtain ⟨xa, xc, rfl, -, -, -⟩ := rdv_slice hxv
        clear h3 h hx
        go_wp2_with fail
        refine (gitprint_any x _ _ (hxv.never hc) m (hc.cellNever hm)).mono ?_
        rintro e w1 ⟨rfl, hc1⟩
        have hw1 := hc.trans hc1
        clear c0 hxv
        by_cases hz : (patchFault x).2 = 0
        · have HS2 := Lib.hid (st1 hz)
          have HG : Hid ((gitR x).data.toList = textG x) := by unfold Hid gitR; rw [if_pos hz, toB_data]
          have hTl : (textG x).length ≤ 200000 := by
            obtain ⟨q1, q2⟩ := patch_each hz
            have := (changes_ok x q2).2
            omega
          have hsz : (gitR x).size ≤ 200000 := by rw [Lib.size_eq, HG.out]; exact hTl
          have HSP : Hid (Lib.splitB ⟨#[10]⟩ 0 (Lib.countB (gitR x) ⟨#[10]⟩) (gitR x) = rtextOf x ++ [toB []]) := by rw [Hid, splitB_parts, HG.out, partsG hz, List.map_append]; rfl
          have HLEN : Hid (Lib.countB (gitR x) ⟨#[10]⟩ + 1 = (rtextOf x ++ [toB []]).length) := by
            have := Lib.splitB_all ⟨#[10]⟩ (by decide) 0 _ (gitR x) rfl
            rw [Hid, ← this, HSP.out]
          have hfew : (rtextOf x).length ≤ 99000 := by unfold rtextOf; rw [List.length_map]; exact linesG_few hz
          have hLs : Hid (∀ y ∈ rtextOf x ++ [toB []], y.size ≤ maxLen) := by
            intro y hy
            have hy2 : y.data.toList ∈ parts 10 (textG x) := by
              rw [partsG hz]
              rcases List.mem_append.1 hy with hy | hy
              · unfold rtextOf at hy
                obtain ⟨q, hq, rfl⟩ := List.mem_map.1 hy
                rw [toB_data]
                exact List.mem_append_left _ hq
              · rw [List.mem_singleton.1 hy, toB_data]; simp
            have := parts_mem 10 _ _ hy2
            rw [Lib.size_eq]; unfold maxLen; omega
          have HTX : Hid (rtextOf x = rtextOf x) := rfl
          rw [hz, errV_zero]
          obtain ⟨L, hL⟩ : ∃ L, rtextOf x = L := ⟨_, rfl⟩
          rw [hL] at HSP HLEN hfew hLs hMT
          generalize gitR x = s at hsz HSP HLEN HG ⊢
          clear hz st1 st2 hTl HTX hL hf
          go_wp2_with fail
          refine (Tryz.strings_Split s ⟨#[10]⟩ m _ (by omega) (hw1.cellNever hm) (by decide)).mono ?_
          rintro e w2 ⟨rfl, rfl⟩
          rw [HSP.out, HLEN.out]
          have hA : Chg Never w1 (w1.alloc (.cells ((L ++ [toB []]).map Value.string).toArray 9)) := (Chg.refl Never w1).alloc _
          have hvl := own_block_lt hown
          have hR0 : Rdv (w1.alloc (.cells ((L ++ [toB []]).map Value.string).toArray 9)) (fun q => Old w.heap.size q ∨ (Value.slice va vn vc).ownBlock = some q) (.slice (some ⟨w1.heap.size, 0, none⟩) (L ++ [toB []]).length (L ++ [toB []]).length) (L ++ [toB []]) :=
            rdv_strs (heap_alloc_new _ _) (fun e => by
              rcases e with e | e
              · unfold Old at e; have := hw1.size; omega
              · have := hvl _ e; have := hc1.size; omega) rfl (by rw [List.length_append]; simp only [List.length_cons, List.length_nil]; unfold maxLen; omega) hLs.out
          have hw2 := hw1.trans hA
          have hown2 := hown.never (hc1.trans hA)
          generalize w1.alloc (.cells ((L ++ [toB []]).map Value.string).toArray 9) = w3 at hR0 hw2 hown2 ⊢
          generalize w1.heap.size = G at hR0 ⊢
          obtain ⟨sb, -, -, hrun, hsub⟩ := slice_g (P := Tryz.prog) (t := 84) (by kernel_rfl) size_str hR0 0 L.length (Nat.zero_le _) (by simp)
          rw [List.drop_zero, Nat.sub_zero, Nat.sub_zero, List.take_left] at hsub
          have hNL : (L ++ [toB []]).length = L.length + 1 := by simp
          rw [hNL] at hrun hsub ⊢
          rw [Nat.sub_zero, Nat.sub_zero] at hrun
          have hrun := fun (wx : World) => hrun (L.length : Nat) wx rfl rfl
          have sw : IntKind.i64.wrap (((L.length + 1 : Nat) : Int) - 1) = (L.length : Int) := by rw [show ((L.length + 1 : Nat) : Int) - 1 = (L.length : Int) by omega]; exact IntWalk.i64_in _ (by omega)
          have hlen : ((p.take k).map rtextOf).length ≤ 1000000000 := by rw [List.length_map, List.length_take]; omega
          clear hR0 hown hA hvl hw1 hc1 hc hNL
          go_wp2_with (at_builtin; refine wpList_push (by rfl) _ _ 82 (by rfl) elemOk_lines (O := Old w.heap.size) (l := (p.take k).map rtextOf) (y := L) (by rfl) (by rfl) (by simp) hown2 hsub (old_lt hw2) hlen ?_; intro v' w4 hown4 hc4 _)
          have hw4 := own_step hw2 hown2 hc4
          clear hrun
          go_wp2_with fail
          go_roundw
          case rel => exact ⟨k + 1, by omega, by go_num, hw4, by rw [hMT.out]; exact hown4, HS2⟩
          case measure => simp [intOf] <;> omega
        · have HF2 : Hid (textsF p = (patchFault x).2) := by rw [Hid, HF.out, st2 hz]
          have HZ := Lib.hid hz
          rw [errV_pos hz]
          clear hz st1 st2 hf hown
          go_wp2_with fail
          go_ret2
          exact ⟨_, by rw [HF2.out, errV_pos HZ.out]; rfl, hw1, by rw [show textsR p = [] from if_neg (by rw [HF2.out]; exact HZ.out)]; exact rdv_nil _ _⟩
      · have hf' := hf.out
        rw [List.drop_of_length_le (by omega)] at hf'
        have HF2 : Hid (textsF p = 0) := by rw [Hid, HF.out, ← hf']; rfl
        rw [List.take_of_length_le (by omega)] at hown
        have hr := hown.rdv
        clear hf hf'
        go_wp2_with fail
        go_ret2
        exact ⟨_, by rw [HF2.out, errV_zero]; rfl, hc, by rw [show textsR p = p.map rtextOf from if_pos HF2.out]; exact hr⟩
end Go.Proofs.YtgabchhplmncnaaGreatDoor
namespace Go.Proofs.YtgabchhplmncnaaGreatDoor
open Go.RowKit

theorem elems_ints {w : World} {O : Nat → Prop} {a : Option Addr} {l : List Int} (h : Elems w O a l) {i : Nat} {x : Int} (hx : l[i]? = some x) :
    ∃ b off, a = some ⟨b, off, none⟩ ∧ ¬ O b ∧ w.cell? ⟨b, off + i, none⟩ = some (.int .i64 x) ∧ I64 x := by
  obtain ⟨b, off, es, ha, hb, hc, rfl, hr⟩ := h i x hx
  refine ⟨b, off, ha, hb, ?_, hr⟩
  have := hc 0 _ rfl
  rw [show off + i * Dat.n Int + 0 = off + i by show off + i * 1 + 0 = _; omega] at this
  exact this
end Go.Proofs.YtgabchhplmncnaaGreatDoor
namespace Go.Proofs.YtgabchhplmncnaaGreatDoor
open Go.RowKit

def costBad (c : Int) : Int := if c < 0 ∨ 100000 < c then 1 else 0
def rowFault (n : Nat) (row : List Int) : Int := if row.length ≠ n then 2 else firstOf costBad row
def sqFault (c : List (List Int)) : Int := if 8 < c.length then 3 else firstOf (rowFault c.length) c

end Go.Proofs.YtgabchhplmncnaaGreatDoor
namespace Go.Proofs.YtgabchhplmncnaaGreatDoor
open Go.RowKit Go.Maps

theorem int_law : Keyed Tryz.prog 3 := int_keyed Tryz.underlying3
theorem zero_int (w : World) : (zeroValue 3).run Tryz.prog w = .ok (.int .i64 0) w := by kernel_rfl
/-- block b is a map of at most n entries that holds F j at j (nothing: 0) -/
def IntMap (w : World) (b n : Nat) (F : Int → Int) : Prop :=
  ∃ D : DataW Unit, w.ownsMap Tryz.prog 3 (plainElem Tryz.prog 3) b n D ∧ IsMap D ∧ ∀ j, D.atKey (.int .i64 j) (.lit (.int .i64 0)) = .lit (.int .i64 (F j))
theorem IntMap.lt {w : World} {b n : Nat} {F : Int → Int} (h : IntMap w b n F) : b < w.heap.size := by
  obtain ⟨D, h1, _⟩ := h
  exact h1.lt
theorem IntMap.keep {w w' : World} {b n : Nat} {F : Int → Int} {O : Nat → Prop} (h : IntMap w b n F) (hc : Chg O w w') (hb : ¬ O b) : IntMap w' b n F := by
  have hlt := h.lt
  obtain ⟨D, ⟨es, clock, h1, h2⟩, h3⟩ := h
  exact ⟨D, ⟨es, clock, (hc.block b hlt hb).trans h1, h2⟩, h3⟩
theorem IntMap.mono {w : World} {b n n' : Nat} {F : Int → Int} (h : IntMap w b n F) (hn : n ≤ n') : IntMap w b n' F := by
  obtain ⟨D, h1, h2⟩ := h
  exact ⟨D, h1.mono hn, h2⟩
theorem intMap_made (w : World) : IntMap (w.alloc (.map #[] 0)) w.heap.size 0 fun _ => 0 :=
  ⟨_, World.ownsMap_made w _ _ _, isMap_empty, fun j => by simp [DataW.atKey]⟩
theorem wf_i64 {a : Int} (h : I64 a) : (Lit.int .i64 a).wf = true := by
  unfold I64 at h
  exact WalkArith.wf_i64 (by omega)
theorem IntMap.look {w : World} {b n : Nat} {F : Int → Int} (h : IntMap w b n F) {j : Int} (hj : I64 j) : (Instr.lookup 93 (.map (some b)) (.int .i64 j) false).run Tryz.prog w = .ok (.int .i64 (F j)) w := by
  obtain ⟨D, h1, h2, h3⟩ := h
  obtain ⟨c, hrun, hat, _⟩ := h1.lookup_int int_law Tryz.underlying93 Tryz.underlying3 (zero_int w) (keyOf_int_mk Tryz.underlying3 (wf_i64 hj))
  rw [h3 j] at hat
  simp only [DataW.lit.injEq, Lit.int.injEq, true_and] at hat
  rw [hat]
  exact hrun
theorem IntMap.put {w : World} {b n : Nat} {F : Int → Int} (h : IntMap w b n F) (hn : n < maxLen) {j c : Int} (hj : I64 j) (hc : I64 c) :
    ∃ w', (Instr.mapUpdate 93 (.map (some b)) (.int .i64 j) (.int .i64 c)).run Tryz.prog w = .ok () w' ∧ IntMap w' b (n + 1) (fun i => if i = j then c else F i) ∧ Chg (fun k => k = b) w w' := by
  obtain ⟨D, h1, h2, h3⟩ := h
  obtain ⟨w', hrun, r1, r2⟩ := h1.update int_law Tryz.underlying93 hn (keyOf_int_mk Tryz.underlying3 (wf_i64 hj)) (plainElem_int Tryz.underlying3 (wf_i64 hc))
  refine ⟨w', hrun, ⟨_, r1, h2.put _ _, fun i => ?_⟩, (Chg.of_grown r2).mono (fun k _ hk => (Option.some.inj hk).symm)⟩
  by_cases e : i = j
  · subst e
    show _ = DataW.lit (.int .i64 (if i = i then c else F i))
    rw [if_pos rfl]
    exact atKey_put_same h2 (by simp [WideAt.IsKeyLit]) _ _
  · show _ = DataW.lit (.int .i64 (if i = j then c else F i))
    rw [if_neg e, atKey_put_other (by simp [e])]
    exact h3 i
end Go.Proofs.YtgabchhplmncnaaGreatDoor
namespace Go.Proofs.YtgabchhplmncnaaGreatDoor
theorem bits_del64 : ∀ s : Nat, s < 256 → ∀ k : Nat, k < 8 → s.testBit k = true → bits .andNot .i64 (s : Int) ((2 ^ k : Nat) : Int) = ((s - 2 ^ k : Nat) : Int) := by decide +kernel
theorem bits_low64 : ∀ s : Nat, s < 256 → 0 < s → bits .and .i64 (s : Int) ((s : Int) - 1) = ((s &&& (s - 1) : Nat) : Int) := by decide +kernel
theorem bits_at64 : ∀ s : Nat, s < 256 → ∀ k : Nat, k < 8 → (bits .and .i64 ((s : Int) / 2 ^ k) 1 == 1) = s.testBit k := by decide +kernel
end Go.Proofs.YtgabchhplmncnaaGreatDoor
namespace Go.Proofs.YtgabchhplmncnaaGreatDoor
open Go.RowKit

def FOk (rows : List (List Int)) (F : Int → Int) (s : Nat) : Prop := ∀ t : Nat, t < s → F t = bestN rows t
theorem sq_bd {l : List (List Int)} (h : sqFault l = 0) : l.length ≤ 8 ∧ SqBd l.length l := by
  unfold sqFault at h
  by_cases e : 8 < l.length
  · rw [if_pos e] at h; cases h
  · rw [if_neg e, firstOf_zero] at h
    refine ⟨by omega, fun row hr => ?_⟩
    have := h row hr
    unfold rowFault at this
    by_cases e1 : row.length ≠ l.length
    · rw [if_pos e1] at this; cases this
    · rw [if_neg e1, firstOf_zero] at this
      refine ⟨by omega, fun c hc => ?_⟩
      have := this c hc
      unfold costBad at this
      by_cases e2 : c < 0 ∨ 100000 < c
      · rw [if_pos e2] at this; cases this
      · omega

theorem pow_wrap {n : Nat} (h : n ≤ 8) : wrap64 ((2 : Int) ^ n) = ((2 ^ n : Nat) : Int) := by
  have : 2 ^ n ≤ 256 := Nat.pow_le_pow_right (n := 2) (by decide) h
  have e : ((2 : Int) ^ n) = ((2 ^ n : Nat) : Int) := by rw [Int.natCast_pow]; rfl
  rw [e]
  generalize 2 ^ n = m at this
  unfold wrap64
  omega

theorem del_step {l : List (List Int)} {F : Int → Int} {s k rr : Nat} (hq : SqBd l.length l) (hn : l.length ≤ 8) (hs : s < 2 ^ l.length) (hk : k < 8) (hb : s.testBit k = true) (hr : rr + cntN s = l.length) (hF : ∀ d : Nat, d < s → F d = bestN l d) :
    ∃ d : Nat, d < s ∧ bits .andNot .i64 (s : Int) (wrap64 (2 ^ k)) = (d : Int) ∧ F d = bestS (l.drop (rr + 1)) (delC (bitsOf s) k) ∧ 0 ≤ F d ∧ F d ≤ 800000 ∧ s - 2 ^ k = d := by
  have h256 := pow_small hs hn
  have hbo : bitsOf s k = true := hb
  obtain ⟨_, h2⟩ := cntN_del h256 hk hbo
  have hp := Nat.two_pow_pos k
  have hd : s - 2 ^ k < s := by omega
  have hbd := bestN_bd hq hn (s := s - 2 ^ k) (by omega)
  have e := hF _ hd
  refine ⟨s - 2 ^ k, hd, ?_, ?_, ?_, ?_, rfl⟩
  · rw [pow_wrap (n := k) (by omega)]
    exact bits_del64 s h256 k hk hb
  · rw [e, bestN_del h256 hk hbo hr]
  · rw [e]; exact hbd.1
  · rw [e]; exact hbd.2

set_option maxHeartbeats 1000000 in
set_option maxRecDepth 100000 in
theorem least_any (l : List (List Int)) (v : Value) (w : World) (h : Rdv w Never v l) (hn : l.length ≤ 8) (hq : SqBd l.length l) :
    Calls Tryz.prog 92 #[v] w fun e w' => ∃ b F, e = .returned (.map (some b)) ∧ Chg Never w w' ∧ w.heap.size ≤ b ∧ IntMap w' b 256 F ∧ FOk l F (2 ^ l.length) := by
  obtain ⟨a, cap, rfl, h1, h2, h3⟩ := rdv_slice h
  unfold maxLen at h2
  have hmm := @run_makeMap Tryz.prog
  have hp1 : 1 ≤ 2 ^ l.length := Nat.two_pow_pos _
  have hp2 : 2 ^ l.length ≤ 256 := Nat.pow_le_pow_right (n := 2) (by decide) hn
  obtain ⟨w1, hrun, hm1, hc1⟩ := (intMap_made w).put (j := 0) (c := 0) (by decide) (by unfold I64; omega) (by unfold I64; omega)
  go_enter Tryz.func92, Tryz.ntmps92
  have hA : Chg Never w w1 := ((Chg.refl Never w).alloc _).trans' hc1 (fun k hk hh => by subst hh; exact absurd hk (Nat.lt_irrefl _))
  have hF1 : Hid (FOk l (fun i => if i = 0 then 0 else (fun _ => 0) i) 1) := fun t ht => by
    obtain rfl : t = 0 := by omega
    rw [bestN_zero]; rfl
  generalize (fun i : Int => if i = 0 then (0 : Int) else (fun _ => 0) i) = F1 at hm1 hF1
  have hm1 := hm1.mono (n' := 1) (by decide)
  go_wp2_with fail
  clear hc1 hmm hrun
  go_loopw [5] (fun i wr => ∃ (s : Nat) (F : Int → Int), 1 ≤ s ∧ s ≤ 2 ^ l.length ∧ i = .int .i64 s ∧ Chg Never w wr ∧ IntMap wr w.heap.size s F ∧ Hid (FOk l F s)) (fun i _ => 256 - (intOf i).toNat)
  case atStart => exact ⟨1, F1, by omega, by omega, rfl, hA, hm1, hF1⟩
  case round =>
    obtain ⟨s, F, hs1, hs2, rfl, hw, hm, hF⟩ := hrel
    have hpw := pow_wrap hn
    by_cases hlt : s < 2 ^ l.length
    · have hs256 : s < 256 := by omega
      have t1 : decide ((s : Int) < wrap64 (2 ^ l.length)) = true := by rw [hpw]; exact decide_eq_true (by omega)
      clear hpw
      go_wp2_with fail
      go_loop [6, 7] (fun r t => ∃ (rr tt : Nat), r = .int .i64 rr ∧ t = .int .i64 tt ∧ tt ≤ s ∧ rr ≤ l.length ∧ Hid (rr + cntN s = l.length + cntN tt)) (fun _ t => (intOf t).toNat)
      case atStart => exact ⟨l.length, s, rfl, rfl, Nat.le_refl _, Nat.le_refl _, rfl⟩
      case round =>
        obtain ⟨rr, tt, rfl, rfl, hts, hrn, hrt⟩ := hrel
        by_cases ht0 : 0 < tt
        · have t2 : decide (0 < (tt : Int)) = true := decide_eq_true (by omega)
          have hlow := bits_low64 tt (by omega) ht0
          have hcl := cntN_low (s := tt) (by omega) ht0
          have hr1 : 1 ≤ rr := by have := hrt.out; have := cntN_le hlt hn; omega
          have hw1 : wrap64 ((rr : Int) - 1) = ((rr - 1 : Nat) : Int) := by unfold wrap64; omega
          go_wp2_with fail
          go_round
          case rel => exact ⟨rr - 1, tt &&& (tt - 1), by congr 1; omega, by first | rfl | assumption, by omega, by omega, by have := hrt.out; unfold Hid; omega⟩
          case measure => simp [intOf]; omega
        · obtain rfl : tt = 0 := by omega
          have hcs := cntN_le hlt hn
          have hcp := cntN_pos hs256 hs1
          have hrs : rr + cntN s = l.length := by have := hrt.out; rw [cntN_zero] at this; exact this
          have hrl : rr < l.length := by omega
          clear hrt
          obtain ⟨x, hx⟩ : ∃ x, l[rr]? = some x := ⟨l[rr], by simp [hrl]⟩
          have hxl : x.length = l.length := (hq x (List.mem_of_getElem? hx)).1
          obtain ⟨b, off, xv, rfl, _, _, hcx, hxr⟩ := elems_row h3 hx
          have hcx := hw.cellNever hcx
          have hxr := hxr.never hw
          clear h3 h
          obtain ⟨a', cap', rfl, g1, g2, g3⟩ := rdv_slice hxr
          unfold maxLen at g2
          clear hxr
          have HX := Lib.hid hx
          have HS := Lib.hid hrs
          have HL := Lib.hid hxl
          clear hx hrs hxl hcs hcp
          go_wp2_with fail
          go_loopw [8, 32] (fun be i wx => ∃ k : Nat, k ≤ l.length ∧ i = .int .i64 k ∧ be = .int .i64 (minGo (fun k => x.getD k 0 + bestS (l.drop (rr + 1)) (delC (bitsOf s) k)) (bitsOf s) k) ∧ Chg Never wr wx) (fun _ i _ => l.length - (intOf i).toNat)
          case atStart => exact ⟨0, Nat.zero_le _, rfl, rfl, Chg.refl _ _⟩
          case round =>
            obtain ⟨k, hk, rfl, rfl, hwx⟩ := hrel
            rename World => wx
            by_cases hkl : k < l.length
            · have hbt := bits_at64 s hs256 k (by omega)
              cases hb : s.testBit k with
              | false =>
                have HM : Hid (minGo (fun k => x.getD k 0 + bestS (l.drop (rr + 1)) (delC (bitsOf s) k)) (bitsOf s) (k + 1) = minGo (fun k => x.getD k 0 + bestS (l.drop (rr + 1)) (delC (bitsOf s) k)) (bitsOf s) k) := by
                  rw [Hid, minGo, if_neg]
                  rintro ⟨q, _⟩
                  unfold bitsOf at q
                  rw [hb] at q; cases q
                rw [hb] at hbt
                clear hb
                go_wp2_with fail
                go_roundw
                case rel => exact ⟨k + 1, by omega, by go_num, by rw [HM.out], hwx⟩
                case measure => simp [intOf]; omega
              | true =>
                rw [hb] at hbt
                have hbo : bitsOf s k = true := hb
                obtain ⟨d, hds, hdl, hFd, hF0, hF8, _⟩ := del_step hq hn hlt (by omega) hb HS.out hF.out
                have hlk : ∀ q, (Instr.lookup 93 (.map (some w.heap.size)) (.int .i64 (d : Int)) false).run Tryz.prog (wx.drewN q) = .ok (.int .i64 (F d)) (wx.drewN q) := fun q => (hm.keep (hwx.drewN q) (fun q => q)).look (j := (d : Int)) (by unfold I64; omega)
                obtain ⟨y, hy⟩ : ∃ y, x[k]? = some y := ⟨x[k]'(by rw [HL.out]; exact hkl), by simp [HL.out ▸ hkl]⟩
                obtain ⟨b', off', rfl, _, hcy, hyi⟩ := elems_ints g3 hy
                have hcx := hwx.cellNever hcx
                have hcy := hwx.cellNever hcy
                have hyb := (hq x (List.mem_of_getElem? HX.out)).2 y (List.mem_of_getElem? hy)
                have hyd : x.getD k 0 = y := by rw [List.getD_eq_getElem?_getD, hy]; rfl
                have hkx : k < x.length := by rw [HL.out]; exact hkl
                have HY := Lib.hid hyd
                have HB := Lib.hid hbo
                have HF := Lib.hid hFd
                clear g3 hy hyd hbo hb hFd
                obtain ⟨m, hmm⟩ : ∃ m, minGo (fun k => x.getD k 0 + bestS (l.drop (rr + 1)) (delC (bitsOf s) k)) (bitsOf s) k = m := ⟨_, rfl⟩
                have HM := Lib.hid hmm
                rw [hmm]
                clear hmm
                have hsum : wrap64 (y + F d) = y + F d := by unfold wrap64; omega
                by_cases hm0 : m < 0
                · have HN : Hid (minGo (fun k => x.getD k 0 + bestS (l.drop (rr + 1)) (delC (bitsOf s) k)) (bitsOf s) (k + 1) = y + F d) := by
                    rw [Hid, minGo, if_pos ⟨HB.out, .inl (by rw [HM.out]; exact hm0)⟩, HY.out, HF.out]
                  go_wp2_with fail
                  go_quiet (fail)
                  go_wp2_with fail
                  go_roundw
                  case rel => exact ⟨k + 1, by omega, by go_num, by rw [HN.out], hwx.drewN _⟩
                  case measure => simp [intOf]; omega
                · by_cases hlm : y + F d < m
                  · have HN : Hid (minGo (fun k => x.getD k 0 + bestS (l.drop (rr + 1)) (delC (bitsOf s) k)) (bitsOf s) (k + 1) = y + F d) := by
                      rw [Hid, minGo, if_pos ⟨HB.out, .inr (by rw [HM.out, HY.out, ← HF.out]; exact hlm)⟩, HY.out, HF.out]
                    go_wp2_with fail
                    go_quiet (fail)
                    go_wp2_with fail
                    go_roundw
                    case rel => exact ⟨k + 1, by omega, by go_num, by rw [HN.out], hwx.drewN _⟩
                    case measure => simp [intOf]; omega
                  · have HN : Hid (minGo (fun k => x.getD k 0 + bestS (l.drop (rr + 1)) (delC (bitsOf s) k)) (bitsOf s) (k + 1) = m) := by
                      rw [Hid, minGo, if_neg, HM.out]
                      rw [HM.out, HY.out, ← HF.out]
                      rintro ⟨_, q | q⟩
                      · exact hm0 q
                      · exact hlm q
                    go_wp2_with fail
                    go_quiet (fail)
                    go_wp2_with fail
                    go_roundw
                    case rel => exact ⟨k + 1, by omega, by go_num, by rw [HN.out], hwx.drewN _⟩
                    case measure => simp [intOf]; omega
            · obtain rfl : k = x.length := by have := HL.out; omega
              have HV : Hid (bestN l s = minGo (fun k => x.getD k 0 + bestS (l.drop (rr + 1)) (delC (bitsOf s) k)) (bitsOf s) x.length) := bestN_step HS.out HX.out
              have hbd := bestN_bd hq hn hlt
              rw [← HV.out]
              have hmx := hm.keep hwx (fun q => q)
              obtain ⟨w2, hrun, hm2, hc2⟩ := hmx.put (j := (s : Int)) (c := bestN l s) (by unfold maxLen; omega) (by unfold I64; omega) (by unfold I64; omega)
              have hw2 : Chg Never w w2 := (hw.trans hwx).trans' hc2 (fun k hk hh => by subst hh; exact absurd hk (Nat.lt_irrefl _))
              have hF2 : Hid (FOk l (fun i => if i = (s : Int) then bestN l s else F i) (s + 1)) := fun t ht => by
                by_cases e : t = s
                · subst e; exact if_pos rfl
                · show (if (t : Int) = s then _ else _) = _
                  rw [if_neg (by omega)]
                  exact hF.out t (by omega)
              clear HV hc2 hmx
              go_wp2_with fail
              go_roundw
              case rel => exact ⟨s + 1, _, by omega, by omega, by go_num, hw2, hm2, hF2⟩
              case measure => simp [intOf]; omega
    · have t1 : decide ((s : Int) < wrap64 (2 ^ l.length)) = false := by rw [hpw]; exact decide_eq_false (by omega)
      clear hpw
      go_wp2_with fail
      go_ret
      refine ⟨_, F, rfl, hw, Nat.le_refl _, hm.mono (by omega), ?_⟩
      rw [show 2 ^ l.length = s by omega]
      exact hF.out
end Go.Proofs.YtgabchhplmncnaaGreatDoor
namespace Go.Proofs.YtgabchhplmncnaaGreatDoor
open Go.RowKit

theorem elemOk_ints : ElemOk Tryz.prog 34 3 1 := elemOk_of Tryz.underlying34 (z := .int .i64 0) (b := 8) (by kernel_rfl) rfl (by decide)
/-- what is chosen of a square -/
def matchR (l : List (List Int)) : List Int := chooseS l (bitsOf (2 ^ l.length - 1))
theorem full_cnt {l : List (List Int)} (_hn : l.length ≤ 8) : l.length ≤ cntL (bitsOf (2 ^ l.length - 1)) l.length := by
  rw [cnt_full l.length l.length (Nat.le_refl _)]; exact Nat.le_refl _
/-- the first column that is as cheap as can be -/
theorem choose_hit {row : List Int} {rest : List (List Int)} {left : Nat → Bool} {k : Nat} (hk : k < row.length) (hl : left k = true) (he : row.getD k 0 + bestS rest (delC left k) = bestS (row :: rest) left)
    (hb : ∀ j, j < k → left j = true → row.getD j 0 + bestS rest (delC left j) ≠ bestS (row :: rest) left) : chooseS (row :: rest) left = (k : Int) :: chooseS rest (delC left k) := by
  have hf : (List.range row.length).find? (fun k => left k && row.getD k 0 + bestS rest (delC left k) == bestS (row :: rest) left) = some k := by
    rw [List.find?_range_eq_some]
    refine ⟨by rw [hl, he]; simp, List.mem_range.2 hk, fun i qi => ?_⟩
    cases li : left i with
    | false => rfl
    | true =>
      have := hb i qi li
      simp only [Bool.true_and, Bool.not_eq_true', beq_eq_false_iff_ne, ne_eq]
      exact this
  rw [chooseS, hf]
def MissTo (row : List Int) (rest : List (List Int)) (left : Nat → Bool) (k : Nat) : Prop := ∀ j, j < k → left j = true → row.getD j 0 + bestS rest (delC left j) ≠ bestS (row :: rest) left
theorem MissTo.step {row : List Int} {rest : List (List Int)} {left : Nat → Bool} {k : Nat} (h : MissTo row rest left k) (hk : left k = true → row.getD k 0 + bestS rest (delC left k) ≠ bestS (row :: rest) left) : MissTo row rest left (k + 1) := fun j hj hl => by
  by_cases e : j = k
  · subst e; exact hk hl
  · exact h j (by omega) hl

set_option maxHeartbeats 2000000 in
set_option maxRecDepth 100000 in
theorem choose_any (l : List (List Int)) (v : Value) (w : World) (h : Rdv w Never v l) (hn : l.length ≤ 8) (hq : SqBd l.length l) :
    Calls Tryz.prog 44 #[v] w fun e w' => ∃ r, e = .returned r ∧ Chg Never w w' ∧ Rdv w' (Old w.heap.size) r (matchR l) := by
  have hv := h
  obtain ⟨a, cap, rfl, h1, h2, h3⟩ := rdv_slice h
  unfold maxLen at h2
  have hp1 : 1 ≤ 2 ^ l.length := Nat.two_pow_pos _
  have hp2 : 2 ^ l.length ≤ 256 := Nat.pow_le_pow_right (n := 2) (by decide) hn
  have hpw := pow_wrap hn
  have hst : wrap64 ((2 : Int) ^ l.length - 1) = ((2 ^ l.length - 1 : Nat) : Int) := by
    have e : ((2 : Int) ^ l.length) = ((2 ^ l.length : Nat) : Int) := by rw [Int.natCast_pow]; rfl
    rw [e]
    generalize 2 ^ l.length = p at hp1 hp2
    unfold wrap64; omega
  go_enter Tryz.func44, Tryz.ntmps44
  go_wp2_with fail
  refine (least_any l _ _ hv hn hq).mono ?_
  rintro e w1 ⟨mb, F, rfl, hw1, hmb, hm, hF⟩
  have HF := Lib.hid hF
  clear hF hv
  go_wp2_with fail
  go_loopw [4, 5, 18] (fun st o i wr => ∃ (s k : Nat) (L : List Int), st = .int .i64 s ∧ i = .int .i64 k ∧ k ≤ l.length ∧ s < 2 ^ l.length ∧ L.length = k ∧ Chg Never w1 wr ∧ Own 3 wr (Old w1.heap.size) o L ∧ Hid (k + cntN s = l.length) ∧ Hid (L ++ chooseS (l.drop k) (bitsOf s) = matchR l)) (fun _ _ i _ => l.length - (intOf i).toNat)
  case atStart =>
    refine ⟨2 ^ l.length - 1, 0, [], by first | rfl | (congr 1), rfl, Nat.zero_le _, by omega, rfl, Chg.refl _ _, own_nil _ _ _, ?_, rfl⟩
    rw [Hid, cntN_full hn, Nat.zero_add]
  case round =>
    obtain ⟨s, k, L, rfl, rfl, hk, hs, hL, hc, hown, hcn, hR⟩ := hrel
    clear hpw hst
    by_cases hlt : k < l.length
    · have hs256 : s < 256 := by omega
      obtain ⟨x, hx⟩ : ∃ x, l[k]? = some x := ⟨l[k], by simp [hlt]⟩
      have hxl : x.length = l.length := (hq x (List.mem_of_getElem? hx)).1
      obtain ⟨b, off, xv, rfl, _, _, hcx, hxr⟩ := elems_row h3 hx
      have hcw := hw1.trans hc
      have hcx := hcw.cellNever hcx
      have hxr := hxr.never hcw
      clear h3 h
      obtain ⟨a', cap', rfl, g1, g2, g3⟩ := rdv_slice hxr
      unfold maxLen at g2
      clear hxr
      have hmr := hm.keep hc (fun q => q)
      have HX := Lib.hid hx
      have HL := Lib.hid hxl
      have HD := Lib.hid (drop_eq hx)
      have HS := Lib.hid hs
      have hFs : Hid (F s = bestS (x :: l.drop (k + 1)) (bitsOf s)) := by
        rw [Hid, HF.out s (by have := Nat.two_pow_pos l.length; omega), bestN]
        rw [show l.length - cntN s = k by have := hcn.out; omega, drop_eq hx]
      have hFb : 0 ≤ F s ∧ F s ≤ 800000 := by rw [HF.out s hs]; exact bestN_bd hq hn hs
      clear hx hxl hs
      go_wp2_with fail
      go_loopw [4, 5, 24] (fun st u i wx => ∃ j : Nat, j ≤ l.length ∧ i = .int .i64 j ∧ st = .int .i64 s ∧ Chg Never wr wx ∧ Own 3 wx (Old w1.heap.size) u L ∧ Hid (MissTo x (l.drop (k + 1)) (bitsOf s) j)) (fun _ _ i _ => l.length - (intOf i).toNat)
      case atStart => exact ⟨0, Nat.zero_le _, rfl, rfl, Chg.refl _ _, hown, fun j hj => absurd hj (Nat.not_lt_zero j)⟩
      case round =>
        obtain ⟨j, hj, rfl, rfl, hwx, hown, hM⟩ := hrel
        rename World => wx
        by_cases hjl : j < l.length
        · have hbt := bits_at64 s hs256 j (by omega)
          obtain ⟨y, hy⟩ : ∃ y, x[j]? = some y := ⟨x[j]'(by rw [HL.out]; exact hjl), by simp [HL.out ▸ hjl]⟩
          obtain ⟨b', off', rfl, _, hcy, hyi⟩ := elems_ints g3 hy
          have hcy := hwx.cellNever hcy
          have hyb := (hq x (List.mem_of_getElem? HX.out)).2 y (List.mem_of_getElem? hy)
          have hyd : x.getD j 0 = y := by rw [List.getD_eq_getElem?_getD, hy]; rfl
          have hjx : j < x.length := by rw [HL.out]; exact hjl
          have HY := Lib.hid hyd
          clear g3 hy hyd
          cases hb : s.testBit j with
          | false =>
            have hM2 : Hid (MissTo x (l.drop (k + 1)) (bitsOf s) (j + 1)) := hM.out.step (fun q => by unfold bitsOf at q; rw [hb] at q; cases q)
            rw [hb] at hbt
            clear hb hcx
            go_wp2_with fail
            go_quiet (fail)
            go_wp2_with fail
            go_roundw
            case rel => exact ⟨j + 1, by omega, by go_num, rfl, hwx.drewN _, hown.never ((Chg.refl _ _).drewN _), hM2⟩
            case measure => simp [intOf]; omega
          | true =>
            rw [hb] at hbt
            have hbo : bitsOf s j = true := hb
            obtain ⟨d, hds, hdl, hFd, hF0, hF8, hsd⟩ := del_step hq hn HS.out (by omega) hb hcn.out (fun d hd => HF.out d (Nat.lt_trans hd HS.out))
            have hlk : ∀ q, (Instr.lookup 93 (.map (some mb)) (.int .i64 (d : Int)) false).run Tryz.prog (wx.drewN q) = .ok (.int .i64 (F d)) (wx.drewN q) := fun q => (hmr.keep (hwx.drewN q) (fun q => q)).look (j := (d : Int)) (by unfold I64; omega)
            have hlk2 : ∀ q, (Instr.lookup 93 (.map (some mb)) (.int .i64 (s : Int)) false).run Tryz.prog (wx.drewN q) = .ok (.int .i64 (F s)) (wx.drewN q) := fun q => (hmr.keep (hwx.drewN q) (fun q => q)).look (j := (s : Int)) (by unfold I64; omega)
            have hsum : wrap64 (y + F d) = y + F d := by unfold wrap64; omega
            have HFD := Lib.hid hFd
            have HBO := Lib.hid hbo
            by_cases hit : y + F d = F s
            · have ht : (y + F d == F s) = true := by simp [hit]
              have hch : Hid (chooseS (x :: l.drop (k + 1)) (bitsOf s) = (j : Int) :: chooseS (l.drop (k + 1)) (bitsOf d)) := by
                rw [Hid, choose_hit hjx hbo (by rw [HY.out, ← HFD.out, hit, hFs.out]) hM.out, ← hsd, bits_del hs256 (by omega) hbo]
              have hcd : Hid (k + 1 + cntN d = l.length) := by
                have := (cntN_del hs256 (k := j) (by omega) hbo).1
                have := hcn.out
                rw [hsd] at *
                unfold Hid; omega
              clear hit hb hbo hFd hcx hsd
              go_wp2_with fail
              go_quiet (fail)
              have hown2 := hown.never ((Chg.refl Never wx).drewN nq)
              have hc2 := hc.trans (hwx.drewN nq)
              have hji : I64 (j : Int) := by unfold I64; omega
              clear hown hlk hlk2
              go_wp2_with (at_builtin; refine wpList_push (by rfl) _ _ 34 (by rfl) elemOk_ints (O := Old w1.heap.size) (l := L) (y := (j : Int)) (by rfl) (by rfl) (by simp) hown2 ⟨rfl, hji⟩ (old_lt hc2) (by omega) ?_; intro v' w2 hown3 hc3 _)
              have hc4 := own_step hc2 hown2 hc3
              clear hc3 hown2 hc2 hwx hcw hc
              go_wp2_with fail
              go_roundw
              case rel =>
                refine ⟨d, k + 1, L ++ [(j : Int)], by first | rfl | (congr 1), by go_num, by omega, by have := HS.out; omega, by simp; omega, hc4, hown3, hcd.out, ?_⟩
                have e := hR.out
                rw [HD.out, hch.out] at e
                rw [Hid, List.append_assoc]
                exact e
              case measure => simp [intOf]; omega
            · have ht : (y + F d == F s) = false := by simp [hit]
              have hM2 : Hid (MissTo x (l.drop (k + 1)) (bitsOf s) (j + 1)) := hM.out.step (fun _ => by rw [HY.out, ← HFD.out, ← hFs.out]; exact hit)
              clear hit hb hbo hFd hcx hsd
              go_wp2_with fail
              go_quiet (fail)
              go_wp2_with fail
              go_roundw
              case rel => exact ⟨j + 1, by omega, by go_num, rfl, hwx.drewN _, hown.never ((Chg.refl _ _).drewN _), hM2⟩
              case measure => simp [intOf]; omega
        · exfalso
          obtain ⟨q, q1, q2, q3, _⟩ := best_step (n := l.length) (left := bitsOf s) (hq.ok |> fun hh => (show SqOk l.length (x :: l.drop (k + 1)) by rw [← HD.out]; exact fun r hr => hh r (List.mem_of_mem_drop hr))) (by
            rw [List.length_drop]
            have := hcn.out
            unfold cntN at this
            rw [cnt_beyond HS.out 8 hn] at this
            omega)
          exact hM.out q (by omega) q2 q3.symm
    · obtain rfl : k = l.length := by omega
      have hR' := hR.out
      rw [List.drop_length, chooseS, List.append_nil] at hR'
      subst hR'
      clear hcn hR
      go_wp2_with fail
      go_ret
      exact ⟨_, rfl, hw1.trans hc, hown.rdv.sub (fun k _ hk => Nat.lt_of_lt_of_le hk hw1.size)⟩
end Go.Proofs.YtgabchhplmncnaaGreatDoor
namespace Go.Proofs.YtgabchhplmncnaaGreatDoor
open Go.RowKit

/-- the block B has so many cells of one kind: at each place what g says -/
def ValRow (e : TypeId) (B : Nat) (wr : World) (len : Nat) (g : Nat → Value) : Prop :=
  ∃ c : Array Value, wr.heap[B]? = some (.cells c e (0, 0)) ∧ c.size = len ∧ ∀ k, k < len → c[k]? = some (g k)
theorem ValRow.cell {e : TypeId} {B : Nat} {wr : World} {len : Nat} {g : Nat → Value} (h : ValRow e B wr len g) {k : Nat} (hk : k < len) : wr.cell? ⟨B, k, none⟩ = some (g k) := by
  obtain ⟨c, h1, h2, h3⟩ := h
  simp only [World.cell?, h1]
  exact h3 k hk
theorem ValRow.lt {e : TypeId} {B : Nat} {wr : World} {len : Nat} {g : Nat → Value} (h : ValRow e B wr len g) : B < wr.heap.size := by
  obtain ⟨c, h1, _⟩ := h
  exact (Array.getElem?_eq_some_iff.1 h1).1
theorem ValRow.free {e : TypeId} {B : Nat} {wr : World} {len : Nat} {g : Nat → Value} (h : ValRow e B wr len g) (k : Nat) : wr.frozen? ⟨B, k, none⟩ = false := by
  obtain ⟨c, h1, h2, h3⟩ := h
  simp [World.frozen?, h1]
theorem ValRow.keep {e : TypeId} {B : Nat} {wr w' : World} {len : Nat} {g : Nat → Value} {O : Nat → Prop} (h : ValRow e B wr len g) (hc : Chg O wr w') (hB : ¬ O B) : ValRow e B w' len g := by
  obtain ⟨c, h1, h2⟩ := h
  refine ⟨c, ?_, h2⟩
  rw [hc.block B (Array.getElem?_eq_some_iff.1 h1).1 hB]
  exact h1
theorem ValRow.set {e : TypeId} {B : Nat} {wr : World} {len : Nat} {f : Nat → Value} (h : ValRow e B wr len f) {k : Nat} (hk : k < len) (b : Value) :
    ValRow e B (wr.setCell ⟨B, k, none⟩ b) len (fun j => if j = k then b else f j) := by
  obtain ⟨c, h1, h2, h3⟩ := h
  refine ⟨c.setIfInBounds k b, ?_, by simpa using h2, ?_⟩
  · simp [World.setCell, Array.getElem?_modify, h1]
  · intro j hj
    show _ = some (if j = k then b else f j)
    rw [Array.getElem?_setIfInBounds]
    by_cases e : j = k
    · subst e; simp [h2, hj]
    · rw [if_neg (fun h => e h.symm), if_neg e]; exact h3 j hj
theorem ValRow.other {e : TypeId} {B : Nat} {wr : World} {len : Nat} {f : Nat → Value} (h : ValRow e B wr len f) {p : Addr} (hp : p.block ≠ B) (v : Value) : ValRow e B (wr.setCell p v) len f :=
  h.keep (O := fun k => k = p.block) ((Chg.refl (fun k => k = p.block) wr).setCell (p := p) (.inr rfl) v) (fun h => hp h.symm)
theorem ValRow.congr {e : TypeId} {B : Nat} {wr : World} {len : Nat} {f g : Nat → Value} (h : ValRow e B wr len f) (hg : ∀ k, k < len → g k = f k) : ValRow e B wr len g := by
  obtain ⟨c, h1, h2, h3⟩ := h
  exact ⟨c, h1, h2, fun k hk => by rw [hg k hk]; exact h3 k hk⟩
/-- what make([]T, n) has made, T of one cell -/
theorem valRow_made {e : TypeId} {z : Value} (hz : z.cells = #[z]) {w1 : World} {B len : Nat} (h : w1.ownsRow 0 e 1 (.slice (some ⟨B, 0, none⟩) len len) len (madeCells z.cells (len * 1)).toList) : ValRow e B w1 len fun _ => z := by
  obtain ⟨_, hx⟩ := h
  rcases hx with ⟨h, _⟩ | ⟨g, cap, cur, hv, _, hh, hn, hm, hcs, htake⟩
  · cases h
  · injection hv with hv1 _ hv3
    injection hv1 with hv1
    injection hv1 with hv1
    subst hv1 hv3
    refine ⟨cur, hh, by simpa using hcs, ?_⟩
    intro k hk
    have e : cur.toList[k]? = (cur.toList.take (len * 1))[k]? := by rw [List.getElem?_take, if_pos (by omega)]
    rw [← Array.getElem?_toList, e, htake]
    simp [madeCells, hz, hk, Nat.mod_one]
end Go.Proofs.YtgabchhplmncnaaGreatDoor
namespace Go.Proofs.YtgabchhplmncnaaGreatDoor
open Go.RowKit

theorem own_out {α : Type} [Dat α] {e : TypeId} {w : World} {O : Nat → Prop} {v : Value} {l : List α} (h : Own e w O v l) : ∀ k, v.ownBlock = some k → ¬ O k := by
  obtain ⟨_, _, q, _⟩ := h
  exact q
end Go.Proofs.YtgabchhplmncnaaGreatDoor
