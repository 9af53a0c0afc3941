/-
  PARTS: THE WALKS of match.cost and texts.; PATCHES FROM TREE TO TREE, in plain Lean (the statements of the whole): what is found between neighbours, what a series run leads to.; THE WALKS of what the statements of the whole share: found, last, one.
-/
import Derived.Test.YtjiaidchcldocaaGreatDoorPg1
import Derived.Test.YtjiaidchcldocaaGreatDoorPg2
import Derived.Test.YtjiaidchcldocaaGreatDoorPg3
import Derived.Test.YtjiaidchcldocaaGreatDoorPg4
import Derived.Test.YtjiaidchcldocaaGreatDoorPg5
import Derived.Test.YtjiaidchcldocaaGreatDoorPg6
import Derived.Test.YtjiaidchcldocaaGreatDoorPg7
import Derived.Test.YtjiaidchcldocaaGreatDoorPg8
import Derived.Test.YtjiaidchcldocaaGreatDoorPg9
import Derived.Test.YtjiaidchcldocaaGreatDoorPg10
import Derived.Test.YtjiaidchcldocaaGreatDoorPg11
import Derived.Test.YtjiaidchcldocaaGreatDoorPg12
import Derived.Test.YtjiaidchcldocaaGreatDoorPg13
import Derived.Test.YtjiaidchcldocaaGreatDoorPg14
import Derived.Test.YtjiaidchcldocaaGreatDoorPg15
import Derived.Test.YtjiaidchcldocaaGreatDoorPg16
import Derived.Test.YtjiaidchcldocaaGreatDoorPg17
import Derived.Test.YtjiaidchcldocaaGreatDoorPg18
import Derived.Test.YtjiaidchcldocaaGreatDoorPg19
import Derived.Test.YtjiaidchcldocaaGreatDoorPg20
import Derived.Test.YtjiaidchcldocaaGreatDoorPg21
import Derived.Test.YtjiaidchcldocaaGreatDoorPg22
import Derived.Test.YtjiaidchcldocaaGreatDoorPg23
import Derived.Test.YtjiaidchcldocaaGreatDoorPg24
import Derived.Test.YtjiaidchcldocaaGreatDoorPg25
import Derived.Test.YtjiaidchcldocaaGreatDoorPg26
import Derived.Test.YtjiaidchcldocaaGreatDoorPg27
import Derived.Test.YtjiaidchcldocaaGreatDoorPg28
import Derived.Test.YtjiaidchcldocaaGreatDoorPg29
import Derived.Test.YtjiaidchcldocaaGreatDoorPg30
import Derived.Test.YtjiaidchcldocaaGreatDoorPg31
import Derived.Test.YtjiaidchcldocaaGreatDoorPg32
import Derived.Test.YtjiaidchcldocaaGreatDoorPg33
import Derived.Test.YtjiaidchcldocaaGreatDoorPg34
import Derived.Test.YtjiaidchcldocaaGreatDoorPg35
import Derived.Test.YtjiaidchcldocaaGreatDoorPg36
import Derived.Test.YtjiaidchcldocaaGreatDoorPg37
import Derived.Test.YtjiaidchcldocaaGreatDoorPg38
import Derived.Test.YtjiaidchcldocaaGreatDoorQh1
import Derived.Deep.RegionHeld3
set_option linter.unusedVariables false
set_option linter.unusedSimpArgs false
namespace Go.Proofs.YtjiaidchcldocaaGreatDoor
open Go.RowKit

theorem rkeep2 {w2 wr wq : World} {p q : Addr} {a b : Value} (h : Chg Never w2 wr ∧ wr.cell? p = some a ∧ wr.cell? q = some b) (k : Chg Never wr wq) : Chg Never w2 wq ∧ wq.cell? p = some a ∧ wq.cell? q = some b :=
  ⟨h.1.trans k, k.cellNever h.2.1, k.cellNever h.2.2⟩
set_option maxHeartbeats 1000000 in
set_option maxRecDepth 100000 in
theorem cost_is (a b : List (List ByteArray)) (i k : Nat) (va vb : Value) (w : World) (ha : Rdv w Never va a) (hb : Rdv w Never vb b) (hla : ∀ x ∈ a, x.length ≤ 99000) (hlb : ∀ x ∈ b, x.length ≤ 99000) (_hi9 : i ≤ 1000000) (_hk9 : k ≤ 1000000) :
    Calls Tryz.prog 85 #[va, vb, .int .i64 i, .int .i64 k] w fun e w' => e = .returned (.int .i64 (rangeCost a b i k)) ∧ Chg Never w w' := by
  obtain ⟨a0, ca, rfl, a1, a2, a3⟩ := rdv_slice ha
  obtain ⟨b0, cb, rfl, b1, b2, b3⟩ := rdv_slice hb
  unfold maxLen at a2 b2
  by_cases hi : i < a.length
  · have ti : decide ((i : Int) < (a.length : Int)) = true := decide_eq_true (by omega)
    have tin : decide (i < a.length) = true := decide_eq_true hi
    obtain ⟨x, hx⟩ : ∃ x, a[i]? = some x := ⟨a[i], by simp [hi]⟩
    have hxl := hla x (List.mem_of_getElem? hx)
    obtain ⟨p, po, xv, rfl, -, -, c0, hxv⟩ := elems_row a3 hx
    by_cases hk : k < b.length
    · have tck : decide ((k : Int) < (b.length : Int)) = true := decide_eq_true (by omega)
      have tkn : decide (k < b.length) = true := decide_eq_true hk
      obtain ⟨y, hy⟩ : ∃ y, b[k]? = some y := ⟨b[k], by simp [hk]⟩
      have hyl := hlb y (List.mem_of_getElem? hy)
      obtain ⟨q, qo, yv, rfl, -, -, d0, hyv⟩ := elems_row b3 hy
      have HR : Hid (rangeCost a b i k = (diffN x y : Nat)) := by unfold Hid rangeCost; rw [hx, hy]
      have ib1 : (i : Int) < (a.length : Int) := by omega
      have ib2 : (k : Int) < (b.length : Int) := by omega
      clear a3 b3 ha hb hx hy
      go_enter Tryz.func85, Tryz.ntmps85
      go_wp2_with fail
      refine wp_region_held_drew (S := fun w' => Chg Never w w' ∧ w'.cell? ⟨p, po + i, none⟩ = some xv ∧ w'.cell? ⟨q, qo + k, none⟩ = some yv) (by kernel_rfl) ⟨(Chg.refl Never w).drew, c0, d0⟩ (fun hH => ?_)
      refine' tk 0 ?_
      refine' tk 1 ?_
      refine' tk 2 ?_
      refine' tk 3 ?_
      refine' tk 4 ?_
      refine' tk 5 ?_
      refine' tk 6 ?_
      refine' tk 7 ?_
      refine wpAnyH_ready (rs := [8]) (by kernel_rfl) (by simp) ?_
      refine AllReadyH.cons rfl (fun K hK => ?_) AllReadyH.nil
      go_simp
      (go_at_call 132; refine (apart_any x y _ _ _ (hxv.never (And.left (by assumption))) (hyv.never (And.left (by assumption))) (by omega) (by omega)).mono ?_; rintro e wq ⟨rfl, hcq⟩; have hS2 := rkeep2 (by assumption) hcq)
      try go_wp2_with fail
      refine hK.out _ _ ?_ (fun hH => ?_)
      · assumption
      clear hK K
      try simp only [Act.put, List.setIfInBounds_toArray, List.set_cons_zero, List.set_cons_succ]
      refine' tk 9 ?_
      refine wpAnyH_done (by kernel_rfl) ?_ _
      rename (Chg Never w _ ∧ _) => hF
      have hcF := hF.1
      clear hF
      go_wp2_with fail
      go_ret
      exact ⟨by rw [HR.out]; rfl, hcF⟩
    · have tck : decide ((k : Int) < (b.length : Int)) = false := decide_eq_false (by omega)
      have tkn : decide (k < b.length) = false := decide_eq_false hk
      have HR : Hid (rangeCost a b i k = (aloneN x : Nat)) := by unfold Hid rangeCost; rw [hx, List.getElem?_eq_none (by omega)]
      clear a3 b3 ha hb hx
      go_enter Tryz.func85, Tryz.ntmps85
      go_wp2_with fail
      refine (alone_any x _ _ hxv (by omega)).mono ?_
      rintro e w1 ⟨rfl, hc1⟩
      go_wp2_with fail
      go_ret
      exact ⟨by rw [HR.out]; rfl, hc1⟩
  · have ti : decide ((i : Int) < (a.length : Int)) = false := decide_eq_false (by omega)
    have tin : decide (i < a.length) = false := decide_eq_false hi
    by_cases hk : k < b.length
    · have tck : decide ((k : Int) < (b.length : Int)) = true := decide_eq_true (by omega)
      have tkn : decide (k < b.length) = true := decide_eq_true hk
      obtain ⟨y, hy⟩ : ∃ y, b[k]? = some y := ⟨b[k], by simp [hk]⟩
      have hyl := hlb y (List.mem_of_getElem? hy)
      obtain ⟨q, qo, yv, rfl, -, -, d0, hyv⟩ := elems_row b3 hy
      have HR : Hid (rangeCost a b i k = (aloneN y : Nat)) := by unfold Hid rangeCost; rw [hy, List.getElem?_eq_none (by omega)]
      clear a3 b3 ha hb hy
      go_enter Tryz.func85, Tryz.ntmps85
      go_wp2_with fail
      refine (alone_any y _ _ hyv (by omega)).mono ?_
      rintro e w1 ⟨rfl, hc1⟩
      go_wp2_with fail
      go_ret
      exact ⟨by rw [HR.out]; rfl, hc1⟩
    · have tck : decide ((k : Int) < (b.length : Int)) = false := decide_eq_false (by omega)
      have tkn : decide (k < b.length) = false := decide_eq_false hk
      have HR : Hid (rangeCost a b i k = 0) := by unfold Hid rangeCost; rw [List.getElem?_eq_none (by omega), List.getElem?_eq_none (by omega)]
      clear a3 b3 ha hb
      go_enter Tryz.func85, Tryz.ntmps85
      go_wp2_with fail
      go_ret
      exact ⟨by rw [HR.out]; rfl, Chg.refl _ _⟩

theorem linesG_ne (p : List Change) : ∀ x ∈ linesG p, x ≠ [] := by
  intro x hx
  unfold linesG at hx
  obtain ⟨c, -, hx⟩ := List.mem_flatMap.1 hx
  unfold changeL at hx
  rcases List.mem_cons.1 hx with rfl | hx
  · unfold mmL; simp
  · rcases List.mem_cons.1 hx with rfl | hx
    · unfold ppL; simp
    · unfold linesU at hx
      obtain ⟨h, -, hx⟩ := List.mem_flatMap.1 hx
      unfold hunkL at hx
      rcases List.mem_cons.1 hx with rfl | hx
      · unfold headL atAt; simp
      · obtain ⟨m, -, rfl⟩ := List.mem_map.1 hx
        unfold markL; simp
theorem textL_two : ∀ (ls : List (List UInt8)), (∀ x ∈ ls, x ≠ []) → 2 * ls.length ≤ (textL ls).length
  | [], _ => Nat.zero_le _
  | x :: ls, h => by
    have ih := textL_two ls fun y hy => h y (List.mem_cons_of_mem _ hy)
    have hx : 0 < x.length := List.length_pos_iff.2 (h x (List.mem_cons_self ..))
    show _ ≤ (x ++ [10] ++ textL ls).length
    simp only [List.length_append, List.length_cons, List.length_nil]
    omega
theorem linesG_few {p : List Change} (h : (patchFault p).2 = 0) : (linesG p).length ≤ 99000 := by
  obtain ⟨h1, h2⟩ := patch_each h
  have := (changes_ok p h2).2
  have := textL_two (linesG p) (linesG_ne p)
  have e : (textG p).length = (textL (linesG p)).length := rfl
  omega
theorem partsG {p : List Change} (h : (patchFault p).2 = 0) : parts 10 (textG p) = linesG p ++ [[]] := by
  obtain ⟨_, h2⟩ := patch_each h
  have := parts_text (linesG p) [] (changes_ok p h2).1
  rw [List.append_nil] at this
  exact this
def textsF (p : List (List Change)) : Int := if 4 < p.length then 3 else firstOf (fun c => (patchFault c).2) p
def textsR (p : List (List Change)) : List (List ByteArray) := if textsF p = 0 then p.map rtextOf else []
theorem elemOk_lines : ElemOk Tryz.prog 157 86 1 := elemOk_of Tryz.underlying157 (z := .slice none 0 0) (b := 24) (by kernel_rfl) rfl (by decide)
theorem map_take_succ {α β : Type} {f : α → β} {l : List α} {k : Nat} {x : α} (hx : l[k]? = some x) : (l.take (k + 1)).map f = (l.take k).map f ++ [f x] := by
  rw [List.take_add_one, hx, Option.toList_some, List.map_append]; rfl
set_option maxHeartbeats 2000000 in
set_option maxRecDepth 100000 in
theorem rtexts_any (p : List (List Change)) (v : Value) (w : World) (h : Rdv w Never v p) (m : Int) (hm : w.cell? ⟨1, 0, none⟩ = some (.int .i64 m)) :
    Calls Tryz.prog 84 #[v] w fun e w' => ∃ r, e = .returned (.tuple #[r, errV (textsF p)]) ∧ Chg Never w w' ∧ Rdv w' (Old w.heap.size) r (textsR p) := by
  obtain ⟨a, cap, rfl, h1, h2, h3⟩ := rdv_slice h
  unfold maxLen at h2
  by_cases h4 : 4 < p.length
  · have HF : Hid (textsF p = 3) := if_pos h4
    have t4 : decide ((4 : Int) < (p.length : Int)) = true := decide_eq_true (by omega)
    go_enter Tryz.func84, Tryz.ntmps84
    go_wp2_with fail
    go_ret2
    exact ⟨_, by rw [HF.out, errV_pos (by decide)]; rfl, Chg.refl _ _, by rw [show textsR p = [] from if_neg (by rw [HF.out]; decide)]; exact rdv_nil _ _⟩
  · have HF : Hid (textsF p = firstOf (fun c => (patchFault c).2) p) := if_neg h4
    have t4 : decide ((4 : Int) < (p.length : Int)) = false := decide_eq_false (by omega)
    go_enter Tryz.func84, Tryz.ntmps84
    go_wp2_with fail
    go_loopw [4, 16] (fun ov iv wr => ∃ k : Nat, k ≤ p.length ∧ iv = .int .i64 k ∧ Chg Never w wr ∧ Own 86 wr (Old w.heap.size) ov ((p.take k).map rtextOf) ∧ Hid (firstOf (fun c => (patchFault c).2) (p.drop k) = firstOf (fun c => (patchFault c).2) p)) (fun _ iv _ => p.length - (intOf iv).toNat)
    case atStart => exact ⟨0, Nat.zero_le _, rfl, Chg.refl _ _, own_nil _ _ _, rfl⟩
    case round =>
      obtain ⟨k, hk, rfl, hc, hown, hf⟩ := hrel
      rename World => wr
      obtain ⟨va, vn, vc, rfl⟩ := own_isSlice hown
      by_cases hlt : k < p.length
      · obtain ⟨x, hx⟩ : ∃ x, p[k]? = some x := ⟨p[k], by simp [hlt]⟩
        obtain ⟨b, off, xv, rfl, -, -, c0, hxv⟩ := elems_row h3 hx
        have c0 := hc.cellNever c0
        have hMT := Lib.hid (map_take_succ (f := rtextOf) hx)
        obtain ⟨st1, st2⟩ := firstOf_from hf.out hx
        obtain ⟨xa, xc, rfl, -, -, -⟩ := rdv_slice hxv
        clear h3 h hx
        go_wp2_with fail
        refine (gitprint_any x _ _ (hxv.never hc) m (hc.cellNever hm)).mono ?_
        rintro e w1 ⟨rfl, hc1⟩
        have hw1 := hc.trans hc1
        clear c0 hxv
        by_cases hz : (patchFault x).2 = 0
        · have HS2 := Lib.hid (st1 hz)
          have HG : Hid ((gitR x).data.toList = textG x) := by unfold Hid gitR; rw [if_pos hz, toB_data]
          have hTl : (textG x).length ≤ 200000 := by
            obtain ⟨q1, q2⟩ := patch_each hz
            have := (changes_ok x q2).2
            omega
          have hsz : (gitR x).size ≤ 200000 := by rw [Lib.size_eq, HG.out]; exact hTl
          have HSP : Hid (Lib.splitB ⟨#[10]⟩ 0 (Lib.countB (gitR x) ⟨#[10]⟩) (gitR x) = rtextOf x ++ [toB []]) := by rw [Hid, splitB_parts, HG.out, partsG hz, List.map_append]; rfl
          have HLEN : Hid (Lib.countB (gitR x) ⟨#[10]⟩ + 1 = (rtextOf x ++ [toB []]).length) := by
            have := Lib.splitB_all ⟨#[10]⟩ (by decide) 0 _ (gitR x) rfl
            rw [Hid, ← this, HSP.out]
          have hfew : (rtextOf x).length ≤ 99000 := by unfold rtextOf; rw [List.length_map]; exact linesG_few hz
          have hLs : Hid (∀ y ∈ rtextOf x ++ [toB []], y.size ≤ maxLen) := by
            intro y hy
            have hy2 : y.data.toList ∈ parts 10 (textG x) := by
              rw [partsG hz]
              rcases List.mem_append.1 hy with hy | hy
              · unfold rtextOf at hy
                obtain ⟨q, hq, rfl⟩ := List.mem_map.1 hy
                rw [toB_data]
                exact List.mem_append_left _ hq
              · rw [List.mem_singleton.1 hy, toB_data]; simp
            have := parts_mem 10 _ _ hy2
            rw [Lib.size_eq]; unfold maxLen; omega
          have HTX : Hid (rtextOf x = rtextOf x) := rfl
          rw [hz, errV_zero]
          obtain ⟨L, hL⟩ : ∃ L, rtextOf x = L := ⟨_, rfl⟩
          rw [hL] at HSP HLEN hfew hLs hMT
          generalize gitR x = s at hsz HSP HLEN HG ⊢
          clear hz st1 st2 hTl HTX hL hf
          go_wp2_with fail
          refine (Tryz.strings_Split s ⟨#[10]⟩ m _ (by omega) (hw1.cellNever hm) (by decide)).mono ?_
          rintro e w2 ⟨rfl, rfl⟩
          rw [HSP.out, HLEN.out]
          have hA : Chg Never w1 (w1.alloc (.cells ((L ++ [toB []]).map Value.string).toArray 9)) := (Chg.refl Never w1).alloc _
          have hvl := own_block_lt hown
          have hR0 : Rdv (w1.alloc (.cells ((L ++ [toB []]).map Value.string).toArray 9)) (fun q => Old w.heap.size q ∨ (Value.slice va vn vc).ownBlock = some q) (.slice (some ⟨w1.heap.size, 0, none⟩) (L ++ [toB []]).length (L ++ [toB []]).length) (L ++ [toB []]) :=
            rdv_strs (heap_alloc_new _ _) (fun e => by
              rcases e with e | e
              · unfold Old at e; have := hw1.size; omega
              · have := hvl _ e; have := hc1.size; omega) rfl (by rw [List.length_append]; simp only [List.length_cons, List.length_nil]; unfold maxLen; omega) hLs.out
          have hw2 := hw1.trans hA
          have hown2 := hown.never (hc1.trans hA)
          generalize w1.alloc (.cells ((L ++ [toB []]).map Value.string).toArray 9) = w3 at hR0 hw2 hown2 ⊢
          generalize w1.heap.size = G at hR0 ⊢
          obtain ⟨sb, -, -, hrun, hsub⟩ := slice_g (P := Tryz.prog) (t := 86) (by kernel_rfl) size_str hR0 0 L.length (Nat.zero_le _) (by simp)
          rw [List.drop_zero, Nat.sub_zero, Nat.sub_zero, List.take_left] at hsub
          have hNL : (L ++ [toB []]).length = L.length + 1 := by simp
          rw [hNL] at hrun hsub ⊢
          rw [Nat.sub_zero, Nat.sub_zero] at hrun
          have hrun := fun (wx : World) => hrun (L.length : Nat) wx rfl rfl
          have sw : IntKind.i64.wrap (((L.length + 1 : Nat) : Int) - 1) = (L.length : Int) := by rw [show ((L.length + 1 : Nat) : Int) - 1 = (L.length : Int) by omega]; exact IntWalk.i64_in _ (by omega)
          have hlen : ((p.take k).map rtextOf).length ≤ 1000000000 := by rw [List.length_map, List.length_take]; omega
          clear hR0 hown hA hvl hw1 hc1 hc hNL
          go_wp2_with (at_builtin; refine wpList_push (by rfl) _ _ 157 (by rfl) elemOk_lines (O := Old w.heap.size) (l := (p.take k).map rtextOf) (y := L) (by rfl) (by rfl) (by simp) hown2 hsub (old_lt hw2) hlen ?_; intro v' w4 hown4 hc4 _)
          have hw4 := own_step hw2 hown2 hc4
          clear hrun
          go_wp2_with fail
          go_roundw
          case rel => exact ⟨k + 1, by omega, by go_num, hw4, by rw [hMT.out]; exact hown4, HS2⟩
          case measure => simp [intOf] <;> omega
        · have HF2 : Hid (textsF p = (patchFault x).2) := by rw [Hid, HF.out, st2 hz]
          have HZ := Lib.hid hz
          rw [errV_pos hz]
          clear hz st1 st2 hf hown
          go_wp2_with fail
          go_ret2
          exact ⟨_, by rw [HF2.out, errV_pos HZ.out]; rfl, hw1, by rw [show textsR p = [] from if_neg (by rw [HF2.out]; exact HZ.out)]; exact rdv_nil _ _⟩
      · have hf' := hf.out
        rw [List.drop_of_length_le (by omega)] at hf'
        have HF2 : Hid (textsF p = 0) := by rw [Hid, HF.out, ← hf']; rfl
        rw [List.take_of_length_le (by omega)] at hown
        have hr := hown.rdv
        clear hf hf'
        go_wp2_with fail
        go_ret2
        exact ⟨_, by rw [HF2.out, errV_zero]; rfl, hc, by rw [show textsR p = p.map rtextOf from if_pos HF2.out]; exact hr⟩
end Go.Proofs.YtjiaidchcldocaaGreatDoor
namespace Go.Proofs.YtjiaidchcldocaaGreatDoor

/-- neighbours -/
def nextsOf : List (List File) → List (List File × List File)
  | a :: b :: r => (a, b) :: nextsOf (b :: r)
  | _ => []
theorem nexts_len : ∀ t : List (List File), (nextsOf t).length = t.length - 1
  | [] => rfl
  | [_] => rfl
  | a :: b :: r => by rw [nextsOf, List.length_cons, nexts_len (b :: r)]; simp
theorem nexts_get : ∀ {t : List (List File)} {k : Nat} {a b : List File}, t[k]? = some a → t[k + 1]? = some b → (nextsOf t)[k]? = some (a, b)
  | [], _, _, _, h, _ => by simp at h
  | [_], 0, _, _, _, h => by simp at h
  | [_], k + 1, _, _, h, _ => by simp at h
  | x :: y :: r, 0, a, b, h, g => by
    simp at h g
    subst h; subst g; rfl
  | x :: y :: r, k + 1, a, b, h, g => by
    rw [nextsOf, List.getElem?_cons_succ]
    exact nexts_get (by simpa using h) (by simpa using g)
/-- the trees that are looked at -/
def foundF (n : Int) (t : List (List File)) : Int := firstOf (fun x => diffFault x.1 x.2 n) (nextsOf (t.take 6))
def foundL (n : Int) (t : List (List File)) : List (List Change) := (nextsOf (t.take 6)).map fun x => diffL n x.1 x.2
def foundR (n : Int) (t : List (List File)) : List (List Change) := if foundF n t = 0 then foundL n t else []
theorem found_len (n : Int) (t : List (List File)) : (foundL n t).length = min t.length 6 - 1 := by
  unfold foundL
  rw [List.length_map, nexts_len, List.length_take, Nat.min_comm]
theorem found_get {n : Int} {t : List (List File)} {k : Nat} {a b : List File} (ha : t[k]? = some a) (hb : t[k + 1]? = some b) (hk : k + 1 < 6) : (nextsOf (t.take 6))[k]? = some (a, b) ∧ (foundL n t)[k]? = some (diffL n a b) := by
  have h := nexts_get (t := t.take 6) (k := k) (a := a) (b := b) (by rw [List.getElem?_take, if_pos (by omega)]; exact ha) (by rw [List.getElem?_take, if_pos (by omega)]; exact hb)
  exact ⟨h, by unfold foundL; rw [List.getElem?_map, h]; rfl⟩
theorem found_zero {n : Int} {t : List (List File)} (h : foundF n t = 0) {k : Nat} {a b : List File} (ha : t[k]? = some a) (hb : t[k + 1]? = some b) (hk : k + 1 < 6) : diffFault a b n = 0 := by
  unfold foundF at h
  rw [firstOf_zero] at h
  exact h (a, b) (List.mem_of_getElem? (found_get (n := n) ha hb hk).1)
end Go.Proofs.YtjiaidchcldocaaGreatDoor
namespace Go.Proofs.YtjiaidchcldocaaGreatDoor
open Go.RowKit

theorem foundL_step {n : Int} {t : List (List File)} {k : Nat} {a b : List File} (ha : t[k]? = some a) (hb : t[k + 1]? = some b) (hk : k + 1 < 6) : (foundL n t).take (k + 1) = (foundL n t).take k ++ [diffL n a b] := by
  rw [List.take_add_one, (found_get (n := n) ha hb hk).2]; rfl
theorem found_no {n : Int} {t : List (List File)} {k : Nat} {a b : List File} (ha : t[k]? = some a) (hb : t[k + 1]? = some b) (hk : k + 1 < 6) (hz : diffFault a b n ≠ 0) : foundF n t ≠ 0 := fun q => hz (found_zero q ha hb hk)
theorem found_all {n : Int} {t : List (List File)} {k : Nat} (hz : ∀ i a b, i < k → t[i]? = some a → t[i + 1]? = some b → diffFault a b n = 0) (hk : (nextsOf (t.take 6)).length ≤ k) : foundF n t = 0 := by
  unfold foundF
  rw [firstOf_zero]
  intro x hx
  obtain ⟨i, hi⟩ := List.mem_iff_getElem?.1 hx
  have hil := (List.getElem?_eq_some_iff.1 hi).1
  have hil2 := hil
  rw [nexts_len, List.length_take] at hil2
  obtain ⟨a, ha⟩ : ∃ a, t[i]? = some a := ⟨t[i]'(by omega), List.getElem?_eq_getElem (by omega)⟩
  obtain ⟨b, hb⟩ : ∃ b, t[i + 1]? = some b := ⟨t[i + 1]'(by omega), List.getElem?_eq_getElem (by omega)⟩
  have := (found_get (n := n) ha hb (by omega)).1
  rw [hi] at this
  injection this with this
  subst this
  exact hz i a b (by omega) ha hb
set_option maxHeartbeats 4000000 in
set_option maxRecDepth 100000 in
theorem top_found (t : List (List File)) (n : Int) (v : Value) (w : World) (h : Rdv w Never v t) (hn : I64 n) (mx : Int) (hm : w.cell? ⟨1, 0, none⟩ = some (.int .i64 mx)) :
    Calls Tryz.prog 32 #[v, .int .i64 n] w fun e w' => ∃ r, e = .returned (.tuple #[r, .bool (foundF n t == 0)]) ∧ Chg Never w w' ∧ Rdv w' Never r (foundR n t) := by
  obtain ⟨a, cap, rfl, h1, h2, h3⟩ := rdv_slice h
  unfold maxLen at h2
  go_enter Tryz.func32, Tryz.ntmps32
  go_wp2_with fail
  go_loopw [6, 7] (fun ov iv wr => ∃ j k : Nat, Hid (j = k + 1) ∧ k ≤ 5 ∧ k ≤ t.length ∧ iv = .int .i64 j ∧ OwnN 51 w wr ov ((foundL n t).take k) ∧ Hid (∀ i a b, i < k → t[i]? = some a → t[i + 1]? = some b → diffFault a b n = 0)) (fun _ iv _ => 6 - (intOf iv).toNat)
  case atStart => exact ⟨1, 0, rfl, by decide, Nat.zero_le _, rfl, ownN_nil _ (Chg.refl _ _), fun i a b q => absurd q (Nat.not_lt_zero i)⟩
  case round =>
    obtain ⟨j, k, hjk, hk5, hkt, rfl, hown, hz⟩ := hrel
    rename World => wr
    obtain ⟨va, vn, vc, rfl⟩ := own_isSlice hown.own
    by_cases hlt : j < t.length ∧ j < 6
    · have hj := hjk.out
      obtain ⟨x, hx⟩ : ∃ x, t[k]? = some x := ⟨t[k]'(by omega), List.getElem?_eq_getElem (by omega)⟩
      obtain ⟨y, hy⟩ : ∃ y, t[j]? = some y := ⟨t[j]'(by omega), List.getElem?_eq_getElem (by omega)⟩
      obtain ⟨b, off, xv, rfl, _, _, c0, hxv⟩ := elems_row h3 hx
      obtain ⟨b', off', yv, epp, _, _, d0, hyv⟩ := elems_row h3 hy
      injection epp with epp
      injection epp with epp1 epp2 _
      subst epp1; subst epp2
      have t1 : decide ((j : Int) < (t.length : Int)) = true := decide_eq_true (by omega)
      have t1n : decide (j < t.length) = true := decide_eq_true (by omega)
      have t2 : decide ((j : Int) < 6) = true := decide_eq_true (by omega)
      have t2n : decide (j < 6) = true := decide_eq_true (by omega)
      have p1 : (k : Int) < (t.length : Int) := by omega
      have p2 : (j : Int) < (t.length : Int) := by omega
      have sN : IntKind.i64.wrap ((j : Int) - 1) = (k : Int) := by rw [show (j : Int) - 1 = (k : Int) by omega]; exact IntWalk.i64_in _ (by omega)
      have hcr := hown.chg
      have c0 := hcr.cellNever c0
      have d0 := hcr.cellNever d0
      have HX := Lib.hid hx
      have HY : Hid (t[k + 1]? = some y) := by rw [Hid, ← hj]; exact hy
      have HST := Lib.hid (foundL_step (n := n) HX.out HY.out (by omega))
      have hLl : ((foundL n t).take k).length ≤ 1000000000 := by rw [List.length_take]; omega
      obtain ⟨xa, xc, rfl, _, _, _⟩ := rdv_slice hxv
      obtain ⟨ya, yc, rfl, _, _, _⟩ := rdv_slice hyv
      obtain ⟨L, hL⟩ : ∃ L, (foundL n t).take k = L := ⟨_, rfl⟩
      rw [hL] at hown HST hLl
      have hk6 : k + 1 ≤ 5 ∧ k + 1 ≤ t.length := by omega
      have hmeas : j < 6 := by omega
      clear hx hy h3 h hj hL hlt
      go_wp2_with fail
      refine wp_region_held_drew (S := fun w' => Chg Never w w' ∧ w'.cell? ⟨b, off + k, none⟩ = some (.slice xa x.length xc) ∧ w'.cell? ⟨b, off + j, none⟩ = some (.slice ya y.length yc)) (by kernel_rfl) ⟨hcr.drew, c0, d0⟩ (fun hH => ?_)
      refine' tk 0 ?_
      refine' tk 1 ?_
      refine' tk 2 ?_
      refine' tk 3 ?_
      refine' tk 4 ?_
      refine' tk 5 ?_
      refine' tk 6 ?_
      refine' tk 7 ?_
      refine' tk 8 ?_
      refine' tk 9 ?_
      refine wpAnyH_ready (rs := [10]) (by kernel_rfl) (by simp) ?_
      refine AllReadyH.cons rfl (fun K hK => ?_) AllReadyH.nil
      go_simp
      (go_at_call 25; refine (diff_old x y n _ _ _ (hxv.never (And.left (by assumption))) (hyv.never (And.left (by assumption))) hn mx (Chg.cellNever (And.left (by assumption)) hm)).mono ?_; rintro e wq ⟨rq, rfl, hcq, hrq⟩; have hS2 := two_keep (by assumption) hcq)
      try go_wp2_with fail
      refine hK.out _ _ ?_ (fun hH => ?_)
      · assumption
      clear hK K
      try simp only [Act.put, List.setIfInBounds_toArray, List.set_cons_zero, List.set_cons_succ]
      by_cases hd : diffFault x y n = 0
      · have hrr := hown.fresh hrq
        rw [diffR_ok hd] at hrq hrr
        have HZ2 : Hid (∀ i a b, i < k + 1 → t[i]? = some a → t[i + 1]? = some b → diffFault a b n = 0) := fun i a b hi ha hb => by
          by_cases e : i = k
          · subst e
            rw [HX.out] at ha
            rw [HY.out] at hb
            injection ha with ha
            injection hb with hb
            subst ha; subst hb
            exact hd
          · exact hz.out i a b (by omega) ha hb
        rw [hd, errV_zero]
        obtain ⟨qa, qc, rfl, _, _, _⟩ := rdv_slice hrq
        refine' tk 11 ?_
        refine' tk 12 ?_
        refine' tk 13 ?_
        refine' tk 14 ?_
        refine' tk 15 ?_
        refine wpAnyH_done (by kernel_rfl) ?_ _
        have hn5 := (hown.never (Chg.refl Never _).drew).never hcq
        have hy : Dat.rd wq (fun k => Never k ∨ (Value.slice va vn vc).ownBlock = some k) [.slice qa (diffL n x y).length qc] (diffL n x y) := hrr
        clear hrq hrr hcq c0 d0 hH hS2 hown hd hz
        go_wp2_with (at_builtin; refine wpList_push (by rfl) _ _ 22 (by rfl) elemOk_changes (O := Never) (l := L) (y := diffL n x y) (by rfl) (by rfl) (by rfl) hn5.own hy (fun _ h => h.elim) hLl ?_; intro v' w7 hown7 hc7 hk7; have hn7 := hn5.step1 hown7 hc7 hk7; clear hown7 hc7 hk7 hy; obtain ⟨oa, on, oc, rfl⟩ := own_isSlice hn7.own)
        clear hn5
        go_wp2_with fail
        go_roundw
        case rel => exact ⟨j + 1, k + 1, by have := hjk.out; unfold Hid; omega, hk6.1, hk6.2, by go_num, by rw [HST.out]; exact hn7, HZ2⟩
        case measure => simp [intOf] <;> omega
      · have HF : Hid ((foundF n t == 0) = false) := by rw [Hid, beq_eq_false_iff_ne]; exact found_no HX.out HY.out (by omega) hd
        have HR : Hid (foundR n t = []) := if_neg (by have := HF.out; simpa using this)
        rw [errV_pos hd]
        obtain ⟨qa, qc, rfl, _, _, _⟩ := rdv_slice hrq
        refine' tk 11 ?_
        refine' tk 12 ?_
        refine' tk 13 ?_
        refine' tk 14 ?_
        refine' tk 15 ?_
        refine wpAnyH_done (by kernel_rfl) ?_ _
        have hcf := (hcr.drew).trans hcq
        clear hrq hcq c0 d0 hH hS2 hown hd hz
        go_wp2_with fail
        go_ret2
        exact ⟨_, by rw [HF.out]; rfl, hcf, by rw [HR.out]; exact rdv_nil _ _⟩
    · have hF0 : foundF n t = 0 := found_all hz.out (by have := hjk.out; rw [nexts_len, List.length_take]; omega)
      have HF : Hid ((foundF n t == 0) = true) := by rw [Hid, hF0]; rfl
      have HR : Hid (foundR n t = foundL n t) := if_pos hF0
      have hr : Rdv wr Never (.slice va vn vc) (foundL n t) := by
        have := hown.own.rdv
        rwa [List.take_of_length_le (by have := hjk.out; rw [found_len]; omega)] at this
      have hcf := hown.chg
      clear hown hz hF0 h3 h
      by_cases hl : j < t.length
      · have t1 : decide ((j : Int) < (t.length : Int)) = true := decide_eq_true (by omega)
        have t1n : decide (j < t.length) = true := decide_eq_true (by omega)
        have t2 : decide ((j : Int) < 6) = false := decide_eq_false (by omega)
        have t2n : decide (j < 6) = false := decide_eq_false (by omega)
        go_wp2_with fail
        go_ret2
        exact ⟨_, by rw [HF.out]; rfl, hcf, by rw [HR.out]; exact hr⟩
      · have t1 : decide ((j : Int) < (t.length : Int)) = false := decide_eq_false (by omega)
        have t1n : decide (j < t.length) = false := decide_eq_false (by omega)
        go_wp2_with fail
        go_ret2
        exact ⟨_, by rw [HF.out]; rfl, hcf, by rw [HR.out]; exact hr⟩
end Go.Proofs.YtjiaidchcldocaaGreatDoor
