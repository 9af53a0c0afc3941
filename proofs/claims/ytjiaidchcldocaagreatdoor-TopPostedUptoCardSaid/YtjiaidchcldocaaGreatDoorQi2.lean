/-
  PARTS: THE WALKS of what the statements of the whole share: found, last, one.; THE WALK of handstitchsame.Ints.; THE WALK of handstitchsame.Pick: some number below n.; THE WALK of the statements' word 'turned': mails in another order.; SERIES, in plain Lean: what is missing is missed (SeriesMisses).; THE LAW TopUndone, walked.; A ROW OF A BLOCK's CELLS, as a function of the place; a row of numbers that make([]int, n) has made.; BITS OF SMALL NUMBERS at int. No program in sight.; THE WALK of base64.four.; THE WALKS of base64.encode, Encode.
-/
import Derived.Test.YtjiaidchcldocaaGreatDoorPg1
import Derived.Test.YtjiaidchcldocaaGreatDoorPg2
import Derived.Test.YtjiaidchcldocaaGreatDoorPg3
import Derived.Test.YtjiaidchcldocaaGreatDoorPg4
import Derived.Test.YtjiaidchcldocaaGreatDoorPg5
import Derived.Test.YtjiaidchcldocaaGreatDoorPg6
import Derived.Test.YtjiaidchcldocaaGreatDoorPg7
import Derived.Test.YtjiaidchcldocaaGreatDoorPg8
import Derived.Test.YtjiaidchcldocaaGreatDoorPg9
import Derived.Test.YtjiaidchcldocaaGreatDoorPg10
import Derived.Test.YtjiaidchcldocaaGreatDoorPg11
import Derived.Test.YtjiaidchcldocaaGreatDoorPg12
import Derived.Test.YtjiaidchcldocaaGreatDoorPg13
import Derived.Test.YtjiaidchcldocaaGreatDoorPg14
import Derived.Test.YtjiaidchcldocaaGreatDoorPg15
import Derived.Test.YtjiaidchcldocaaGreatDoorPg16
import Derived.Test.YtjiaidchcldocaaGreatDoorPg17
import Derived.Test.YtjiaidchcldocaaGreatDoorPg18
import Derived.Test.YtjiaidchcldocaaGreatDoorPg19
import Derived.Test.YtjiaidchcldocaaGreatDoorPg20
import Derived.Test.YtjiaidchcldocaaGreatDoorPg21
import Derived.Test.YtjiaidchcldocaaGreatDoorPg22
import Derived.Test.YtjiaidchcldocaaGreatDoorPg23
import Derived.Test.YtjiaidchcldocaaGreatDoorPg24
import Derived.Test.YtjiaidchcldocaaGreatDoorPg25
import Derived.Test.YtjiaidchcldocaaGreatDoorPg26
import Derived.Test.YtjiaidchcldocaaGreatDoorPg27
import Derived.Test.YtjiaidchcldocaaGreatDoorPg28
import Derived.Test.YtjiaidchcldocaaGreatDoorPg29
import Derived.Test.YtjiaidchcldocaaGreatDoorPg30
import Derived.Test.YtjiaidchcldocaaGreatDoorPg31
import Derived.Test.YtjiaidchcldocaaGreatDoorPg32
import Derived.Test.YtjiaidchcldocaaGreatDoorPg33
import Derived.Test.YtjiaidchcldocaaGreatDoorPg34
import Derived.Test.YtjiaidchcldocaaGreatDoorPg35
import Derived.Test.YtjiaidchcldocaaGreatDoorPg36
import Derived.Test.YtjiaidchcldocaaGreatDoorPg37
import Derived.Test.YtjiaidchcldocaaGreatDoorPg38
import Derived.Test.YtjiaidchcldocaaGreatDoorQi1
import Derived.Deep.RegionHeld3
import Derived.Laws.Entries
set_option linter.unusedVariables false
set_option linter.unusedSimpArgs false
namespace Go.Proofs.YtjiaidchcldocaaGreatDoor
open Go.RowKit

set_option maxHeartbeats 2000000 in
set_option maxRecDepth 100000 in
theorem top_last (t : List (List File)) (v : Value) (w : World) (h : Rdv w Never v t) (h0 : 0 < t.length) :
    Calls Tryz.prog 33 #[v] w fun e w' => ∃ r, e = .returned r ∧ w' = w ∧ Rdv w Never r (lastOf t) := by
  obtain ⟨a, cap, rfl, h1, h2, h3⟩ := rdv_slice h
  unfold maxLen at h2
  have sN0 : IntKind.i64.wrap ((t.length : Int) - 1) = (t.length : Int) - 1 := IntWalk.i64_in _ (by omega)
  by_cases h5 : 5 < t.length - 1
  · have HL : lastOf t = t.getD 5 [] := by unfold lastOf; rw [if_pos h5]
    have hg : t[5]? = some (t.getD 5 []) := by rw [List.getD_eq_getElem?_getD, List.getElem?_eq_getElem (by omega)]; rfl
    rw [← HL] at hg
    generalize lastOf t = z at hg ⊢
    obtain ⟨b, off, cv, rfl, _, _, d0, hcv⟩ := elems_row h3 hg
    have t5 : decide ((5 : Int) < (t.length : Int) - 1) = true := decide_eq_true (by omega)
    have p5 : (5 : Int) < (t.length : Int) := by omega
    obtain ⟨ca, cc, rfl, _, _, _⟩ := rdv_slice hcv
    clear h3 h HL hg
    go_enter Tryz.func33, Tryz.ntmps33
    go_wp2_with fail
    go_ret
    exact ⟨_, rfl, rfl, hcv⟩
  · obtain ⟨n, hn⟩ : ∃ n, t.length = n + 1 := ⟨t.length - 1, by omega⟩
    have HL : lastOf t = t.getD n [] := by unfold lastOf; rw [if_neg h5, hn]; rfl
    have hg : t[n]? = some (t.getD n []) := by rw [List.getD_eq_getElem?_getD, List.getElem?_eq_getElem (by omega)]; rfl
    rw [← HL] at hg
    generalize lastOf t = z at hg ⊢
    obtain ⟨b, off, cv, rfl, _, _, d0, hcv⟩ := elems_row h3 hg
    have eN : (t.length : Int) - 1 = (n : Int) := by omega
    have sN : IntKind.i64.wrap ((t.length : Int) - 1) = (n : Int) := sN0.trans eN
    clear sN0 eN
    have t5 : decide ((5 : Int) < (n : Int)) = false := decide_eq_false (by omega)
    have t6 : decide (5 < n) = false := decide_eq_false (by omega)
    have p5 : (n : Int) < (t.length : Int) := by omega
    obtain ⟨ca, cc, rfl, _, _, _⟩ := rdv_slice hcv
    clear h3 h HL hn hg
    go_enter Tryz.func33, Tryz.ntmps33
    go_wp2_with fail
    go_ret
    exact ⟨_, rfl, rfl, hcv⟩
theorem foundL_step {n : Int} {t : List (List File)} {k : Nat} {a b : List File} (ha : t[k]? = some a) (hb : t[k + 1]? = some b) (hk : k + 1 < 6) : (foundL n t).take (k + 1) = (foundL n t).take k ++ [diffL n a b] := by
  rw [List.take_add_one, (found_get (n := n) ha hb hk).2]; rfl
theorem found_no {n : Int} {t : List (List File)} {k : Nat} {a b : List File} (ha : t[k]? = some a) (hb : t[k + 1]? = some b) (hk : k + 1 < 6) (hz : diffFault a b n ≠ 0) : foundF n t ≠ 0 := fun q => hz (found_zero q ha hb hk)
theorem found_all {n : Int} {t : List (List File)} {k : Nat} (hz : ∀ i a b, i < k → t[i]? = some a → t[i + 1]? = some b → diffFault a b n = 0) (hk : (nextsOf (t.take 6)).length ≤ k) : foundF n t = 0 := by
  unfold foundF
  rw [firstOf_zero]
  intro x hx
  obtain ⟨i, hi⟩ := List.mem_iff_getElem?.1 hx
  have hil := (List.getElem?_eq_some_iff.1 hi).1
  have hil2 := hil
  rw [nexts_len, List.length_take] at hil2
  obtain ⟨a, ha⟩ : ∃ a, t[i]? = some a := ⟨t[i]'(by omega), List.getElem?_eq_getElem (by omega)⟩
  obtain ⟨b, hb⟩ : ∃ b, t[i + 1]? = some b := ⟨t[i + 1]'(by omega), List.getElem?_eq_getElem (by omega)⟩
  have := (found_get (n := n) ha hb (by omega)).1
  rw [hi] at this
  injection this with this
  subst this
  exact hz i a b (by omega) ha hb
set_option maxHeartbeats 4000000 in
set_option maxRecDepth 100000 in
theorem top_found (t : List (List File)) (n : Int) (v : Value) (w : World) (h : Rdv w Never v t) (hn : I64 n) (mx : Int) (hm : w.cell? ⟨1, 0, none⟩ = some (.int .i64 mx)) :
    Calls Tryz.prog 32 #[v, .int .i64 n] w fun e w' => ∃ r, e = .returned (.tuple #[r, .bool (foundF n t == 0)]) ∧ Chg Never w w' ∧ Rdv w' Never r (foundR n t) := by
  obtain ⟨a, cap, rfl, h1, h2, h3⟩ := rdv_slice h
  unfold maxLen at h2
  go_enter Tryz.func32, Tryz.ntmps32
  go_wp2_with fail
  go_loopw [6, 7] (fun ov iv wr => ∃ j k : Nat, Hid (j = k + 1) ∧ k ≤ 5 ∧ k ≤ t.length ∧ iv = .int .i64 j ∧ OwnN 51 w wr ov ((foundL n t).take k) ∧ Hid (∀ i a b, i < k → t[i]? = some a → t[i + 1]? = some b → diffFault a b n = 0)) (fun _ iv _ => 6 - (intOf iv).toNat)
  case atStart => exact ⟨1, 0, rfl, by decide, Nat.zero_le _, rfl, ownN_nil _ (Chg.refl _ _), fun i a b q => absurd q (Nat.not_lt_zero i)⟩
  case round =>
    obtain ⟨j, k, hjk, hk5, hkt, rfl, hown, hz⟩ := hrel
    rename World => wr
    obtain ⟨va, vn, vc, rfl⟩ := own_isSlice hown.own
    by_cases hlt : j < t.length ∧ j < 6
    · have hj := hjk.out
      obtain ⟨x, hx⟩ : ∃ x, t[k]? = some x := ⟨t[k]'(by omega), List.getElem?_eq_getElem (by omega)⟩
      obtain ⟨y, hy⟩ : ∃ y, t[j]? = some y := ⟨t[j]'(by omega), List.getElem?_eq_getElem (by omega)⟩
      obtain ⟨b, off, xv, rfl, _, _, c0, hxv⟩ := elems_row h3 hx
      obtain ⟨b', off', yv, epp, _, _, d0, hyv⟩ := elems_row h3 hy
      injection epp with epp
      injection epp with epp1 epp2 _
      subst epp1; subst epp2
      have t1 : decide ((j : Int) < (t.length : Int)) = true := decide_eq_true (by omega)
      have t1n : decide (j < t.length) = true := decide_eq_true (by omega)
      have t2 : decide ((j : Int) < 6) = true := decide_eq_true (by omega)
      have t2n : decide (j < 6) = true := decide_eq_true (by omega)
      have p1 : (k : Int) < (t.length : Int) := by omega
      have p2 : (j : Int) < (t.length : Int) := by omega
      have sN : IntKind.i64.wrap ((j : Int) - 1) = (k : Int) := by rw [show (j : Int) - 1 = (k : Int) by omega]; exact IntWalk.i64_in _ (by omega)
      have hcr := hown.chg
      have c0 := hcr.cellNever c0
      have d0 := hcr.cellNever d0
      have HX := Lib.hid hx
      have HY : Hid (t[k + 1]? = some y) := by rw [Hid, ← hj]; exact hy
      have HST := Lib.hid (foundL_step (n := n) HX.out HY.out (by omega))
      have hLl : ((foundL n t).take k).length ≤ 1000000000 := by rw [List.length_take]; omega
      obtain ⟨xa, xc, rfl, _, _, _⟩ := rdv_slice hxv
      obtain ⟨ya, yc, rfl, _, _, _⟩ := rdv_slice hyv
      obtain ⟨L, hL⟩ : ∃ L, (foundL n t).take k = L := ⟨_, rfl⟩
      rw [hL] at hown HST hLl
      have hk6 : k + 1 ≤ 5 ∧ k + 1 ≤ t.length := by omega
      have hmeas : j < 6 := by omega
      clear hx hy h3 h hj hL hlt
      go_wp2_with fail
      refine wp_region_held_drew (S := fun w' => Chg Never w w' ∧ w'.cell? ⟨b, off + k, none⟩ = some (.slice xa x.length xc) ∧ w'.cell? ⟨b, off + j, none⟩ = some (.slice ya y.length yc)) (by kernel_rfl) ⟨hcr.drew, c0, d0⟩ (fun hH => ?_)
      refine' tk 0 ?_
      refine' tk 1 ?_
      refine' tk 2 ?_
      refine' tk 3 ?_
      refine' tk 4 ?_
      refine' tk 5 ?_
      refine' tk 6 ?_
      refine' tk 7 ?_
      refine' tk 8 ?_
      refine' tk 9 ?_
      refine wpAnyH_ready (rs := [10]) (by kernel_rfl) (by simp) ?_
      refine AllReadyH.cons rfl (fun K hK => ?_) AllReadyH.nil
      go_simp
      (go_at_call 25; refine (diff_old x y n _ _ _ (hxv.never (And.left (by assumption))) (hyv.never (And.left (by assumption))) hn mx (Chg.cellNever (And.left (by assumption)) hm)).mono ?_; rintro e wq ⟨rq, rfl, hcq, hrq⟩; have hS2 := two_keep (by assumption) hcq)
      try go_wp2_with fail
      refine hK.out _ _ ?_ (fun hH => ?_)
      · assumption
      clear hK K
      try simp only [Act.put, List.setIfInBounds_toArray, List.set_cons_zero, List.set_cons_succ]
      by_cases hd : diffFault x y n = 0
      · have hrr := hown.fresh hrq
        rw [diffR_ok hd] at hrq hrr
        have HZ2 : Hid (∀ i a b, i < k + 1 → t[i]? = some a → t[i + 1]? = some b → diffFault a b n = 0) := fun i a b hi ha hb => by
          by_cases e : i = k
          · subst e
            rw [HX.out] at ha
            rw [HY.out] at hb
            injection ha with ha
            injection hb with hb
            subst ha; subst hb
            exact hd
          · exact hz.out i a b (by omega) ha hb
        rw [hd, errV_zero]
        obtain ⟨qa, qc, rfl, _, _, _⟩ := rdv_slice hrq
        refine' tk 11 ?_
        refine' tk 12 ?_
        refine' tk 13 ?_
        refine' tk 14 ?_
        refine' tk 15 ?_
        refine wpAnyH_done (by kernel_rfl) ?_ _
        have hn5 := (hown.never (Chg.refl Never _).drew).never hcq
        have hy : Dat.rd wq (fun k => Never k ∨ (Value.slice va vn vc).ownBlock = some k) [.slice qa (diffL n x y).length qc] (diffL n x y) := hrr
        clear hrq hrr hcq c0 d0 hH hS2 hown hd hz
        go_wp2_with (at_builtin; refine wpList_push (by rfl) _ _ 22 (by rfl) elemOk_changes (O := Never) (l := L) (y := diffL n x y) (by rfl) (by rfl) (by rfl) hn5.own hy (fun _ h => h.elim) hLl ?_; intro v' w7 hown7 hc7 hk7; have hn7 := hn5.step1 hown7 hc7 hk7; clear hown7 hc7 hk7 hy; obtain ⟨oa, on, oc, rfl⟩ := own_isSlice hn7.own)
        clear hn5
        go_wp2_with fail
        go_roundw
        case rel => exact ⟨j + 1, k + 1, by have := hjk.out; unfold Hid; omega, hk6.1, hk6.2, by go_num, by rw [HST.out]; exact hn7, HZ2⟩
        case measure => simp [intOf] <;> omega
      · have HF : Hid ((foundF n t == 0) = false) := by rw [Hid, beq_eq_false_iff_ne]; exact found_no HX.out HY.out (by omega) hd
        have HR : Hid (foundR n t = []) := if_neg (by have := HF.out; simpa using this)
        rw [errV_pos hd]
        obtain ⟨qa, qc, rfl, _, _, _⟩ := rdv_slice hrq
        refine' tk 11 ?_
        refine' tk 12 ?_
        refine' tk 13 ?_
        refine' tk 14 ?_
        refine' tk 15 ?_
        refine wpAnyH_done (by kernel_rfl) ?_ _
        have hcf := (hcr.drew).trans hcq
        clear hrq hcq c0 d0 hH hS2 hown hd hz
        go_wp2_with fail
        go_ret2
        exact ⟨_, by rw [HF.out]; rfl, hcf, by rw [HR.out]; exact rdv_nil _ _⟩
    · have hF0 : foundF n t = 0 := found_all hz.out (by have := hjk.out; rw [nexts_len, List.length_take]; omega)
      have HF : Hid ((foundF n t == 0) = true) := by rw [Hid, hF0]; rfl
      have HR : Hid (foundR n t = foundL n t) := if_pos hF0
      have hr : Rdv wr Never (.slice va vn vc) (foundL n t) := by
        have := hown.own.rdv
        rwa [List.take_of_length_le (by have := hjk.out; rw [found_len]; omega)] at this
      have hcf := hown.chg
      clear hown hz hF0 h3 h
      by_cases hl : j < t.length
      · have t1 : decide ((j : Int) < (t.length : Int)) = true := decide_eq_true (by omega)
        have t1n : decide (j < t.length) = true := decide_eq_true (by omega)
        have t2 : decide ((j : Int) < 6) = false := decide_eq_false (by omega)
        have t2n : decide (j < 6) = false := decide_eq_false (by omega)
        go_wp2_with fail
        go_ret2
        exact ⟨_, by rw [HF.out]; rfl, hcf, by rw [HR.out]; exact hr⟩
      · have t1 : decide ((j : Int) < (t.length : Int)) = false := decide_eq_false (by omega)
        have t1n : decide (j < t.length) = false := decide_eq_false (by omega)
        go_wp2_with fail
        go_ret2
        exact ⟨_, by rw [HF.out]; rfl, hcf, by rw [HR.out]; exact hr⟩
end Go.Proofs.YtjiaidchcldocaaGreatDoor
namespace Go.Proofs.YtjiaidchcldocaaGreatDoor
open Go.RowKit

theorem elems_ints {w : World} {O : Nat → Prop} {a : Option Addr} {l : List Int} (h : Elems w O a l) {i : Nat} {x : Int} (hx : l[i]? = some x) :
    ∃ b off, a = some ⟨b, off, none⟩ ∧ ¬ O b ∧ w.cell? ⟨b, off + i, none⟩ = some (.int .i64 x) ∧ I64 x := by
  obtain ⟨b, off, es, ha, hb, hc, rfl, hr⟩ := h i x hx
  refine ⟨b, off, ha, hb, ?_, hr⟩
  have := hc 0 _ rfl
  rw [show off + i * Dat.n Int + 0 = off + i by show off + i * 1 + 0 = _; omega] at this
  exact this
end Go.Proofs.YtjiaidchcldocaaGreatDoor
namespace Go.Proofs.YtjiaidchcldocaaGreatDoor
open Go.RowKit

theorem tmod_nat {c : Int} {n : Nat} (hc : 0 ≤ c) (h0 : 0 < n) : ∃ k : Nat, k < n ∧ Int.tmod c (n : Int) = (k : Int) := by
  obtain ⟨d, rfl⟩ : ∃ d : Nat, c = d := ⟨c.toNat, by omega⟩
  exact ⟨d % n, Nat.mod_lt _ h0, by rw [Int.tmod_eq_emod_of_nonneg (by omega)]; omega⟩
set_option maxHeartbeats 1000000 in
theorem pick_any (c : Int) (n : Nat) (w : World) (hc : I64 c) (h0 : 0 < n) (hn : n ≤ 1000000000) :
    Calls Tryz.prog 16 #[.int .i64 c, .int .i64 n] w fun e w' => ∃ k : Nat, k < n ∧ e = .returned (.int .i64 k) ∧ w' = w := by
  unfold I64 at hc
  have n0 : ((n : Int) == 0) = false := by simp; omega
  have n1 : ((n : Int) != 0) = true := by simp; omega
  by_cases h : c < 0
  · have t1 : decide (c < 0) = true := decide_eq_true h
    have s1 : IntKind.i64.wrap (c + 1) = c + 1 := IntWalk.i64_in _ (by omega)
    have s2 : IntKind.i64.wrap (-(c + 1)) = -(c + 1) := IntWalk.i64_in _ (by omega)
    obtain ⟨k, hk, e⟩ := tmod_nat (c := -(c + 1)) (by omega) h0
    have s3 : IntKind.i64.wrap (k : Int) = k := IntWalk.i64_in _ (by omega)
    have HE := Lib.hid e
    go_enter Tryz.func16, Tryz.ntmps16
    go_wp2_with fail
    go_ret
    exact ⟨k, hk, rfl, rfl⟩
  · have t1 : decide (c < 0) = false := decide_eq_false h
    obtain ⟨k, hk, e⟩ := tmod_nat (c := c) (by omega) h0
    have s3 : IntKind.i64.wrap (k : Int) = k := IntWalk.i64_in _ (by omega)
    go_enter Tryz.func16, Tryz.ntmps16
    go_wp2_with fail
    go_ret
    exact ⟨k, hk, rfl, rfl⟩
end Go.Proofs.YtjiaidchcldocaaGreatDoor
namespace Go.Proofs.YtjiaidchcldocaaGreatDoor
open Go.RowKit

theorem move_perm {α : Type} {L : List α} {j : Nat} {x : α} (h : L[j]? = some x) : (L.take j ++ L.drop (j + 1) ++ [x]).Perm L := by
  obtain ⟨hj, e⟩ := List.getElem?_eq_some_iff.1 h
  have e2 : L = L.take j ++ x :: L.drop (j + 1) := by
    conv => lhs; rw [← List.take_append_drop j L, List.drop_eq_getElem_cons hj, e]
  conv => rhs; rw [e2]
  rw [List.append_assoc]
  exact List.Perm.append_left _ (List.perm_append_singleton x _)
theorem size_mail (w : World) : (sizeOf (Tryz.prog.elem 24)).run Tryz.prog w = .ok 4 w := by kernel_rfl
end Go.Proofs.YtjiaidchcldocaaGreatDoor
namespace Go.Proofs.YtjiaidchcldocaaGreatDoor

theorem canonP_mem {t : List UInt8} {p : List (List Change)} : ∀ x ∈ canonP t p, x.title = t ∧ x.many = p.length := fun x hx => by
  rcases List.mem_cons.1 hx with rfl | hx
  · exact ⟨rfl, rfl⟩
  · exact ⟨(canon_mem hx).1, (canon_mem hx).2.1⟩
theorem packed_mem {t : List UInt8} {p : List (List Change)} (h : packF t p = 0) : ∀ x ∈ packL t p, pieceF x = 0 ∧ (pieceOf x).title = t ∧ (pieceOf x).many = p.length := fun x hx => by
  obtain ⟨h1, h2⟩ := pack_pieces h
  have hm : pieceOf x ∈ canonP t p := by rw [← h2]; exact List.mem_map.2 ⟨x, hx, rfl⟩
  exact ⟨h1 x hx, canonP_mem _ hm⟩
theorem packed_len (t : List UInt8) (p : List (List Change)) : (packL t p).length = p.length + 1 := by unfold packL; rw [List.length_cons, packGo_len]
end Go.Proofs.YtjiaidchcldocaaGreatDoor
namespace Go.Proofs.YtjiaidchcldocaaGreatDoor
open Go.RowKit

theorem last_get {t : List (List File)} (h0 : 0 < t.length) {n : Int} : t[(foundL n t).length]? = some (lastOf t) := by
  unfold lastOf
  rw [found_len]
  by_cases h : 5 < t.length - 1
  · rw [if_pos h, show min t.length 6 - 1 = 5 by omega, List.getD_eq_getElem?_getD, List.getElem?_eq_getElem (by omega)]; rfl
  · rw [if_neg h, show min t.length 6 - 1 = t.length - 1 by omega, List.getD_eq_getElem?_getD, List.getElem?_eq_getElem (by omega)]; rfl
/-- each patch that was found leads from the one tree to the next, and turned back -/
theorem found_leads {n : Int} {t : List (List File)} (h : foundF n t = 0) {k : Nat} {a b : List File} (ha : t[k]? = some a) (hb : t[k + 1]? = some b) (hk : k + 1 < 6) :
    (foundL n t)[k]? = some (diffL n a b) ∧ Tree a ∧ Tree b ∧ 0 ≤ n ∧ n ≤ 1000 ∧ Patch (diffL n a b) ∧ applyR a (diffL n a b) = (b, 0, 0) ∧ applyR b (turnP (diffL n a b)) = (a, 0, 0) := by
  obtain ⟨q1, q2, q3, q4⟩ := diffFault_zero (found_zero h ha hb hk)
  have TA := tree_iff.2 q1
  have TB := tree_iff.2 q2
  have M := diff_makes TA TB q3 q4
  exact ⟨(found_get ha hb hk).2, TA, TB, q3, q4, (diff_leads TA TB q3 q4).1, M.1, M.2⟩
end Go.Proofs.YtjiaidchcldocaaGreatDoor
namespace Go.Proofs.YtjiaidchcldocaaGreatDoor
open Go.RowKit

/-- the block B has so many cells of one kind: at each place what g says -/
def ValRow (e : TypeId) (B : Nat) (wr : World) (len : Nat) (g : Nat → Value) : Prop :=
  ∃ c : Array Value, wr.heap[B]? = some (.cells c e (0, 0)) ∧ c.size = len ∧ ∀ k, k < len → c[k]? = some (g k)
theorem ValRow.cell {e : TypeId} {B : Nat} {wr : World} {len : Nat} {g : Nat → Value} (h : ValRow e B wr len g) {k : Nat} (hk : k < len) : wr.cell? ⟨B, k, none⟩ = some (g k) := by
  obtain ⟨c, h1, h2, h3⟩ := h
  simp only [World.cell?, h1]
  exact h3 k hk
theorem ValRow.lt {e : TypeId} {B : Nat} {wr : World} {len : Nat} {g : Nat → Value} (h : ValRow e B wr len g) : B < wr.heap.size := by
  obtain ⟨c, h1, _⟩ := h
  exact (Array.getElem?_eq_some_iff.1 h1).1
theorem ValRow.free {e : TypeId} {B : Nat} {wr : World} {len : Nat} {g : Nat → Value} (h : ValRow e B wr len g) (k : Nat) : wr.frozen? ⟨B, k, none⟩ = false := by
  obtain ⟨c, h1, h2, h3⟩ := h
  simp [World.frozen?, h1]
theorem ValRow.keep {e : TypeId} {B : Nat} {wr w' : World} {len : Nat} {g : Nat → Value} {O : Nat → Prop} (h : ValRow e B wr len g) (hc : Chg O wr w') (hB : ¬ O B) : ValRow e B w' len g := by
  obtain ⟨c, h1, h2⟩ := h
  refine ⟨c, ?_, h2⟩
  rw [hc.block B (Array.getElem?_eq_some_iff.1 h1).1 hB]
  exact h1
theorem ValRow.set {e : TypeId} {B : Nat} {wr : World} {len : Nat} {f : Nat → Value} (h : ValRow e B wr len f) {k : Nat} (hk : k < len) (b : Value) :
    ValRow e B (wr.setCell ⟨B, k, none⟩ b) len (fun j => if j = k then b else f j) := by
  obtain ⟨c, h1, h2, h3⟩ := h
  refine ⟨c.setIfInBounds k b, ?_, by simpa using h2, ?_⟩
  · simp [World.setCell, Array.getElem?_modify, h1]
  · intro j hj
    show _ = some (if j = k then b else f j)
    rw [Array.getElem?_setIfInBounds]
    by_cases e : j = k
    · subst e; simp [h2, hj]
    · rw [if_neg (fun h => e h.symm), if_neg e]; exact h3 j hj
theorem ValRow.other {e : TypeId} {B : Nat} {wr : World} {len : Nat} {f : Nat → Value} (h : ValRow e B wr len f) {p : Addr} (hp : p.block ≠ B) (v : Value) : ValRow e B (wr.setCell p v) len f :=
  h.keep (O := fun k => k = p.block) ((Chg.refl (fun k => k = p.block) wr).setCell (p := p) (.inr rfl) v) (fun h => hp h.symm)
theorem ValRow.congr {e : TypeId} {B : Nat} {wr : World} {len : Nat} {f g : Nat → Value} (h : ValRow e B wr len f) (hg : ∀ k, k < len → g k = f k) : ValRow e B wr len g := by
  obtain ⟨c, h1, h2, h3⟩ := h
  exact ⟨c, h1, h2, fun k hk => by rw [hg k hk]; exact h3 k hk⟩
end Go.Proofs.YtjiaidchcldocaaGreatDoor
namespace Go.Proofs.YtjiaidchcldocaaGreatDoor
theorem bits_and_i64 (a b : Nat) (ha : a < 9223372036854775808) (hb : b < 9223372036854775808) : bits .and .i64 (a : Int) (b : Int) = ((a &&& b : Nat) : Int) := by
  have h1 : (BitVec.ofInt 64 (a : Int)).toNat = a := by rw [BitVec.ofInt_natCast, BitVec.toNat_ofNat]; exact Nat.mod_eq_of_lt (by omega)
  have h2 : (BitVec.ofInt 64 (b : Int)).toNat = b := by rw [BitVec.ofInt_natCast, BitVec.toNat_ofNat]; exact Nat.mod_eq_of_lt (by omega)
  have h3 : a &&& b < 9223372036854775808 := Nat.lt_of_le_of_lt Nat.and_le_left ha
  show IntKind.i64.wrap ((BitVec.ofInt 64 (a : Int) &&& BitVec.ofInt 64 (b : Int)).toNat : Int) = _
  rw [BitVec.toNat_and, h1, h2]
  simp only [IntKind.wrap, IntKind.bits, IntKind.signed]
  generalize a &&& b = c at h3 ⊢
  simp
  omega
theorem bits_or_i64 (a b : Nat) (ha : a < 4611686018427387904) (hb : b < 4611686018427387904) : bits .or .i64 (a : Int) (b : Int) = ((a ||| b : Nat) : Int) := by
  have h1 : (BitVec.ofInt 64 (a : Int)).toNat = a := by rw [BitVec.ofInt_natCast, BitVec.toNat_ofNat]; exact Nat.mod_eq_of_lt (by omega)
  have h2 : (BitVec.ofInt 64 (b : Int)).toNat = b := by rw [BitVec.ofInt_natCast, BitVec.toNat_ofNat]; exact Nat.mod_eq_of_lt (by omega)
  have h3 : a ||| b < 2 ^ 62 := Nat.or_lt_two_pow (by omega) (by omega)
  show IntKind.i64.wrap ((BitVec.ofInt 64 (a : Int) ||| BitVec.ofInt 64 (b : Int)).toNat : Int) = _
  rw [BitVec.toNat_or, h1, h2]
  simp only [IntKind.wrap, IntKind.bits, IntKind.signed]
  generalize a ||| b = c at h3 ⊢
  simp
  omega
end Go.Proofs.YtjiaidchcldocaaGreatDoor
namespace Go.Proofs.YtjiaidchcldocaaGreatDoor
open Go.RowKit

/-- the first k bytes of three as a number -/
def pre (l : List UInt8) : Nat → Nat
  | 0 => 0
  | k + 1 => pre l k * 256 + (l.getD k 0).toNat
theorem pre_lt (l : List UInt8) : ∀ k, pre l k < 256 ^ k
  | 0 => by simp [pre]
  | k + 1 => by
    have h1 := pre_lt l k
    have h2 := (l.getD k 0).toNat_lt
    rw [pre, Nat.pow_succ]
    omega
theorem pre_3 {l : List UInt8} (h : l.length ≤ 3) : pre l 3 = num3 l := by
  match l, h with
  | [], _ => rfl
  | [a], _ => simp [pre, num3]; omega
  | [a, b], _ => simp [pre, num3]; omega
  | [a, b, c], _ => simp [pre, num3]; omega
theorem or_byte {n : Nat} (hn : n < 65536) (x : UInt8) : bits .or .i64 ((n : Int) * 256) (x.toNat : Int) = ((n * 256 + x.toNat : Nat) : Int) := by
  have hx := x.toNat_lt
  have h1 := bits_or_i64 (n * 256) x.toNat (by omega) (by omega)
  rw [show ((n * 256 : Nat) : Int) = (n : Int) * 256 by omega] at h1
  rw [h1]
  congr 1
  have := Nat.two_pow_add_eq_or_of_lt (i := 8) (b := x.toNat) hx n
  rw [show (256 : Nat) = 2 ^ 8 by decide, Nat.mul_comm, ← this]
theorem and_63 (n : Nat) (h : n < 9223372036854775808) : bits .and .i64 (n : Int) 63 = ((n % 64 : Nat) : Int) := by
  have h1 := bits_and_i64 n 63 h (by decide)
  rw [show ((63 : Nat) : Int) = 63 by rfl] at h1
  rw [h1, show (63 : Nat) = 2 ^ 6 - 1 by decide, Nat.and_two_pow_sub_one_eq_mod]
def lettersB : ByteArray := ⟨#[65, 66, 67, 68, 69, 70, 71, 72, 73, 74, 75, 76, 77, 78, 79, 80, 81, 82, 83, 84, 85, 86, 87, 88, 89, 90, 97, 98, 99, 100, 101, 102, 103, 104, 105, 106, 107, 108, 109, 110, 111, 112, 113, 114, 115, 116, 117, 118, 119, 120, 121, 122, 48, 49, 50, 51, 52, 53, 54, 55, 56, 57, 43, 47]⟩
theorem letters_size : lettersB.size = 64 := rfl
theorem letters_get : ∀ k : Fin 64, (lettersB[k.1]'(by rw [letters_size]; exact k.2)) = letterAt k.1 := by decide +kernel
/-- the letters of the first k places -/
def outAt (l : List UInt8) (k j : Nat) : Value := .int .u8 (if j < k then ((fourOf l).getD j 0).toNat else 0)
theorem four_get {l : List UInt8} {j : Nat} (hj : j < 4) : (fourOf l).getD j 0 = if l.length < j then 61 else letterAt (num3 l / 2 ^ (18 - 6 * j) % 64) := by
  unfold fourOf
  rw [List.getD_eq_getElem?_getD, List.getElem?_map, List.getElem?_range hj]; rfl

theorem outAt_step {l : List UInt8} {k j : Nat} {v : Value} (hv : v = .int .u8 ((fourOf l).getD k 0).toNat) : outAt l (k + 1) j = if j = k then v else outAt l k j := by
  unfold outAt
  by_cases e : j = k
  · subst e; rw [if_pos rfl, if_pos (by omega), hv]
  · rw [if_neg e]
    by_cases h : j < k
    · rw [if_pos h, if_pos (by omega)]
    · rw [if_neg h, if_neg (by omega)]

set_option maxHeartbeats 2000000 in
set_option maxRecDepth 100000 in
theorem four_any (l : List UInt8) (v : Value) (w : World) (h : Rdv w Never v l) (hl : l.length ≤ 3) :
    Calls Tryz.prog 208 #[v] w fun e w' => e = .returned (.string (toB (fourOf l))) ∧ Chg Never w w' := by
  obtain ⟨a, cap, rfl, h1, h2, h3⟩ := rdv_slice h
  unfold maxLen at h2
  go_enter Tryz.func208, Tryz.ntmps208
  go_wp2_with fail
  go_loop [3, 7] (fun n i => ∃ k : Nat, k ≤ 3 ∧ i = .int .i64 k ∧ n = .int .i64 (pre l k)) (fun _ i => 3 - (intOf i).toNat)
  case atStart => exact ⟨0, Nat.zero_le _, rfl, rfl⟩
  case round =>
    obtain ⟨k, hk, rfl, rfl⟩ := hrel
    have hp := pre_lt l k
    by_cases hk3 : k < 3
    · have hp2 : pre l k < 65536 := Nat.lt_of_lt_of_le hp (by match k, hk3 with
        | 0, _ => decide
        | 1, _ => decide
        | 2, _ => decide)
      have hwr : wrap64 ((pre l k : Int) * 256) = (pre l k : Int) * 256 := by unfold wrap64; omega
      by_cases hlt : k < l.length
      · obtain ⟨x, hx⟩ : ∃ x, l[k]? = some x := ⟨l[k], by simp [hlt]⟩
        obtain ⟨b, off, rfl, _, _, hcx⟩ := elems_byte h3 hx
        have hor := or_byte hp2 x
        have hwx : wrap64 (x.toNat : Int) = (x.toNat : Int) := by have := x.toNat_lt; unfold wrap64; omega
        have HN : Hid (pre l (k + 1) = pre l k * 256 + x.toNat) := by rw [Hid, pre, List.getD_eq_getElem?_getD, hx]; rfl
        clear hx h3 h
        go_wp2_with fail
        go_round
        case rel => exact ⟨k + 1, by omega, by go_num, by rw [HN.out]; congr 1⟩
        case measure => simp [intOf]; omega
      · have HN : Hid (pre l (k + 1) = pre l k * 256) := by rw [Hid, pre, List.getD_eq_getElem?_getD, List.getElem?_eq_none (by omega)]; rfl
        go_wp2_with fail
        go_round
        case rel => exact ⟨k + 1, by omega, by go_num, by rw [HN.out]; congr 1⟩
        case measure => simp [intOf]; omega
    · obtain rfl : k = 3 := by omega
      rw [pre_3 hl] at hp ⊢
      go_wp2_with fail
      have hB0 : ValRow 314 w.heap.size (w.alloc (.cells #[.int .u8 0, .int .u8 0, .int .u8 0, .int .u8 0] 314)) 4 (outAt l 0) := ⟨_, heap_alloc_new _ _, rfl, fun k hk => by
        match k, hk with
        | 0, _ => rfl
        | 1, _ => rfl
        | 2, _ => rfl
        | 3, _ => rfl⟩
      have hA : Chg Never w (w.alloc (.cells #[.int .u8 0, .int .u8 0, .int .u8 0, .int .u8 0] 314)) := (Chg.refl Never w).alloc _
      have hp' : num3 l < 16777216 := hp
      clear hp
      go_loopw [24] (fun i wr => ∃ k : Nat, k ≤ 4 ∧ i = .int .i64 k ∧ Chg Never w wr ∧ ValRow 314 w.heap.size wr 4 (outAt l k)) (fun i _ => 4 - (intOf i).toNat)
      case atStart => exact ⟨0, Nat.zero_le _, rfl, hA, hB0⟩
      case round =>
        obtain ⟨k, hk, rfl, hw, hB⟩ := hrel
        rename World => wr
        clear hB0 hA
        match k, hk with
        | 0, _ =>
          have hc : ¬ l.length < 0 := Nat.not_lt_zero _
          have hsh : bits .and .i64 ((num3 l : Int) / 262144) 63 = ((num3 l / 262144 % 64 : Nat) : Int) := by
            rw [show ((num3 l : Int) / 262144) = ((num3 l / 262144 : Nat) : Int) by omega]
            exact and_63 _ (by omega)
          have hla : (lettersB[num3 l / 262144 % 64]'(by rw [letters_size]; exact Nat.mod_lt _ (by decide))) = letterAt (num3 l / 2 ^ (18 - 6 * 0) % 64) := by
            rw [show letterAt (num3 l / 2 ^ (18 - 6 * 0) % 64) = letterAt (num3 l / 262144 % 64) by simp]
            exact letters_get ⟨_, Nat.mod_lt _ (by decide)⟩
          replace hla := Lib.hid hla
          have d0 := ValRow.cell hB (k := 0) (by decide)
          have d1 := ValRow.free hB 0
          have hB1 := ValRow.set hB (k := 0) (by decide) (.int .u8 (lettersB[num3 l / 262144 % 64]'(by rw [letters_size]; exact Nat.mod_lt _ (by decide))).toNat)
          have hw1 : Chg Never w (wr.setCell ⟨w.heap.size, 0, none⟩ (.int .u8 (lettersB[num3 l / 262144 % 64]'(by rw [letters_size]; exact Nat.mod_lt _ (by decide))).toNat)) := hw.setCell (.inl (Nat.le_refl _)) _
          have hB3 := hB1.congr (g := outAt l (0 + 1)) (fun j _ => outAt_step (by rw [four_get (by decide), if_neg hc, hla.out]))
          clear hB1
          go_wp2_with fail
          go_roundw
          case rel => exact ⟨0 + 1, by decide, by go_num, hw1, hB3⟩
          case measure => simp [intOf]
        | 1, _ =>
          have hsh : bits .and .i64 ((num3 l : Int) / 4096) 63 = ((num3 l / 4096 % 64 : Nat) : Int) := by
            rw [show ((num3 l : Int) / 4096) = ((num3 l / 4096 : Nat) : Int) by omega]
            exact and_63 _ (by omega)
          have hla : (lettersB[num3 l / 4096 % 64]'(by rw [letters_size]; exact Nat.mod_lt _ (by decide))) = letterAt (num3 l / 2 ^ (18 - 6 * 1) % 64) := by
            rw [show letterAt (num3 l / 2 ^ (18 - 6 * 1) % 64) = letterAt (num3 l / 4096 % 64) by simp]
            exact letters_get ⟨_, Nat.mod_lt _ (by decide)⟩
          replace hla := Lib.hid hla
          have d0 := ValRow.cell hB (k := 1) (by decide)
          have d1 := ValRow.free hB 1
          have hB1 := ValRow.set hB (k := 1) (by decide) (.int .u8 (lettersB[num3 l / 4096 % 64]'(by rw [letters_size]; exact Nat.mod_lt _ (by decide))).toNat)
          have hw1 : Chg Never w (wr.setCell ⟨w.heap.size, 1, none⟩ (.int .u8 (lettersB[num3 l / 4096 % 64]'(by rw [letters_size]; exact Nat.mod_lt _ (by decide))).toNat)) := hw.setCell (.inl (Nat.le_refl _)) _
          by_cases hc : l.length < 1
          · have d2 := ValRow.cell hB1 (k := 1) (by decide)
            have d3 := ValRow.free hB1 1
            have hB2 := ValRow.set hB1 (k := 1) (by decide) (.int .u8 61)
            have hw2 := hw1.setCell (p := ⟨w.heap.size, 1, none⟩) (.inl (Nat.le_refl _)) (.int .u8 61)
            have hB3 := hB2.congr (g := outAt l (1 + 1)) (fun j _ => by
              by_cases e : j = 1
              · rw [if_pos e, e, outAt_step (v := .int .u8 61) (by rw [four_get (by decide), if_pos hc]; rfl), if_pos rfl]
              · rw [if_neg e, if_neg e, outAt_step (v := .int .u8 61) (by rw [four_get (by decide), if_pos hc]; rfl), if_neg e])
            clear hB1 hB2
            go_wp2_with fail
            go_roundw
            case rel => exact ⟨1 + 1, by decide, by go_num, hw2, hB3⟩
            case measure => simp [intOf]
          · have hB3 := hB1.congr (g := outAt l (1 + 1)) (fun j _ => outAt_step (by rw [four_get (by decide), if_neg hc, hla.out]))
            clear hB1
            go_wp2_with fail
            go_roundw
            case rel => exact ⟨1 + 1, by decide, by go_num, hw1, hB3⟩
            case measure => simp [intOf]
        | 2, _ =>
          have hsh : bits .and .i64 ((num3 l : Int) / 64) 63 = ((num3 l / 64 % 64 : Nat) : Int) := by
            rw [show ((num3 l : Int) / 64) = ((num3 l / 64 : Nat) : Int) by omega]
            exact and_63 _ (by omega)
          have hla : (lettersB[num3 l / 64 % 64]'(by rw [letters_size]; exact Nat.mod_lt _ (by decide))) = letterAt (num3 l / 2 ^ (18 - 6 * 2) % 64) := by
            rw [show letterAt (num3 l / 2 ^ (18 - 6 * 2) % 64) = letterAt (num3 l / 64 % 64) by simp]
            exact letters_get ⟨_, Nat.mod_lt _ (by decide)⟩
          replace hla := Lib.hid hla
          have d0 := ValRow.cell hB (k := 2) (by decide)
          have d1 := ValRow.free hB 2
          have hB1 := ValRow.set hB (k := 2) (by decide) (.int .u8 (lettersB[num3 l / 64 % 64]'(by rw [letters_size]; exact Nat.mod_lt _ (by decide))).toNat)
          have hw1 : Chg Never w (wr.setCell ⟨w.heap.size, 2, none⟩ (.int .u8 (lettersB[num3 l / 64 % 64]'(by rw [letters_size]; exact Nat.mod_lt _ (by decide))).toNat)) := hw.setCell (.inl (Nat.le_refl _)) _
          by_cases hc : l.length < 2
          · have d2 := ValRow.cell hB1 (k := 2) (by decide)
            have d3 := ValRow.free hB1 2
            have hB2 := ValRow.set hB1 (k := 2) (by decide) (.int .u8 61)
            have hw2 := hw1.setCell (p := ⟨w.heap.size, 2, none⟩) (.inl (Nat.le_refl _)) (.int .u8 61)
            have hB3 := hB2.congr (g := outAt l (2 + 1)) (fun j _ => by
              by_cases e : j = 2
              · rw [if_pos e, e, outAt_step (v := .int .u8 61) (by rw [four_get (by decide), if_pos hc]; rfl), if_pos rfl]
              · rw [if_neg e, if_neg e, outAt_step (v := .int .u8 61) (by rw [four_get (by decide), if_pos hc]; rfl), if_neg e])
            clear hB1 hB2
            go_wp2_with fail
            go_roundw
            case rel => exact ⟨2 + 1, by decide, by go_num, hw2, hB3⟩
            case measure => simp [intOf]
          · have hB3 := hB1.congr (g := outAt l (2 + 1)) (fun j _ => outAt_step (by rw [four_get (by decide), if_neg hc, hla.out]))
            clear hB1
            go_wp2_with fail
            go_roundw
            case rel => exact ⟨2 + 1, by decide, by go_num, hw1, hB3⟩
            case measure => simp [intOf]
        | 3, _ =>
          have hsh : bits .and .i64 ((num3 l : Int)) 63 = ((num3 l % 64 : Nat) : Int) := by
            rw [show ((num3 l : Int)) = ((num3 l : Nat) : Int) by omega]
            exact and_63 _ (by omega)
          have hla : (lettersB[num3 l % 64]'(by rw [letters_size]; exact Nat.mod_lt _ (by decide))) = letterAt (num3 l / 2 ^ (18 - 6 * 3) % 64) := by
            rw [show letterAt (num3 l / 2 ^ (18 - 6 * 3) % 64) = letterAt (num3 l % 64) by simp]
            exact letters_get ⟨_, Nat.mod_lt _ (by decide)⟩
          replace hla := Lib.hid hla
          have d0 := ValRow.cell hB (k := 3) (by decide)
          have d1 := ValRow.free hB 3
          have hB1 := ValRow.set hB (k := 3) (by decide) (.int .u8 (lettersB[num3 l % 64]'(by rw [letters_size]; exact Nat.mod_lt _ (by decide))).toNat)
          have hw1 : Chg Never w (wr.setCell ⟨w.heap.size, 3, none⟩ (.int .u8 (lettersB[num3 l % 64]'(by rw [letters_size]; exact Nat.mod_lt _ (by decide))).toNat)) := hw.setCell (.inl (Nat.le_refl _)) _
          by_cases hc : l.length < 3
          · have d2 := ValRow.cell hB1 (k := 3) (by decide)
            have d3 := ValRow.free hB1 3
            have hB2 := ValRow.set hB1 (k := 3) (by decide) (.int .u8 61)
            have hw2 := hw1.setCell (p := ⟨w.heap.size, 3, none⟩) (.inl (Nat.le_refl _)) (.int .u8 61)
            have hB3 := hB2.congr (g := outAt l (3 + 1)) (fun j _ => by
              by_cases e : j = 3
              · rw [if_pos e, e, outAt_step (v := .int .u8 61) (by rw [four_get (by decide), if_pos hc]; rfl), if_pos rfl]
              · rw [if_neg e, if_neg e, outAt_step (v := .int .u8 61) (by rw [four_get (by decide), if_pos hc]; rfl), if_neg e])
            clear hB1 hB2
            go_wp2_with fail
            go_roundw
            case rel => exact ⟨3 + 1, by decide, by go_num, hw2, hB3⟩
            case measure => simp [intOf]
          · have hB3 := hB1.congr (g := outAt l (3 + 1)) (fun j _ => outAt_step (by rw [four_get (by decide), if_neg hc, hla.out]))
            clear hB1
            go_wp2_with fail
            go_roundw
            case rel => exact ⟨3 + 1, by decide, by go_num, hw1, hB3⟩
            case measure => simp [intOf]
        | 4, _ => 
          have hR : Rdv wr Never (.slice (some ⟨w.heap.size, 0, none⟩) 4 4) (fourOf l) := by
            have hL := four_len l
            refine ⟨some ⟨w.heap.size, 0, none⟩, 4, by rw [hL], by rw [hL]; decide, by unfold maxLen; omega, fun i x hx => ?_⟩
            have hi := (List.getElem?_eq_some_iff.1 hx).1
            rw [hL] at hi
            refine ⟨w.heap.size, 0, [.int .u8 x.toNat], rfl, fun h => h, ?_, rfl⟩
            intro j u hj
            match j, hj with
            | 0, hj =>
              simp only [List.getElem?_cons_zero, Option.some.injEq] at hj
              subst hj
              have := ValRow.cell hB hi
              unfold outAt at this
              rw [if_pos hi, List.getD_eq_getElem?_getD, hx] at this
              simpa [Dat.n] using this
          have hcv := conv_str hR
          go_wp2_with fail
          go_ret
          exact ⟨rfl, hw⟩
end Go.Proofs.YtjiaidchcldocaaGreatDoor
namespace Go.Proofs.YtjiaidchcldocaaGreatDoor
open Go.RowKit

abbrev BAt' (p : Value) (B b : Nat) (bs : List Value) (w : World) : Prop := Lib.BuilderAtF 140 5 B b p bs w
theorem isB_keep {B b : Nat} {bs : List Value} {w w' : World} (h : IsB B b bs w) (hc : Chg Never w w') : IsB B b bs w' := by
  have key : ∀ p, BAt' p B b bs w → BAt' p B b bs w' := by
    rintro p hp
    have hlt := Lib.BuilderAtF.lt hp
    obtain ⟨hB, v, hv, hown, hne⟩ := hp
    exact ⟨hB, v, (hc.block b hlt (fun x => x)).trans hv, hown.kept (row := none) ⟨hc.os, hc.tape, hc.output, hc.size, fun k hk _ => hc.block k hk (fun x => x)⟩ (by cases hx : v.ownBlock <;> simp), hne⟩
  exact h.elim (fun x => .inl (key _ x)) (fun x => .inr (key _ x))
theorem size_byte (w : World) : (sizeOf (Tryz.prog.elem 29)).run Tryz.prog w = .ok 1 w := by kernel_rfl
theorem enc_cons {r : List UInt8} (h : r ≠ []) (n : Nat) : encGo r n = fourOf (r.take 3) ++ (if (n + 4) % 76 = 0 ∨ r.drop 3 = [] then [10] else []) ++ encGo (r.drop 3) (n + 4) := by
  match r, h with
  | x :: r, _ => rw [encGo]
theorem take_min (r : List UInt8) : r.take (min 3 r.length) = r.take 3 := by
  by_cases h : 3 ≤ r.length
  · rw [Nat.min_eq_left h]
  · rw [Nat.min_eq_right (by omega), List.take_length, List.take_of_length_le (by omega)]
theorem drop_min (r : List UInt8) : r.drop (min 3 r.length) = r.drop 3 := by
  by_cases h : 3 ≤ r.length
  · rw [Nat.min_eq_left h]
  · rw [Nat.min_eq_right (by omega), List.drop_length, List.drop_of_length_le (by omega)]

set_option maxHeartbeats 1000000 in
set_option maxRecDepth 100000 in
theorem encode_any (l : List UInt8) (v : Value) (w : World) (h : Rdv w Never v l) (hl : l.length ≤ 100000000) :
    Calls Tryz.prog 176 #[v] w fun e w' => e = .returned (.string (toB (encL l))) ∧ Chg Never w w' := by
  obtain ⟨a, cap, rfl, h1, h2, h3⟩ := rdv_slice h
  unfold maxLen at h2
  go_enter Tryz.func176, Tryz.ntmps176
  go_wp2_with fail
  go_loopw [0, 4] (fun bv nv wr => ∃ (p n : Nat) (acc : List UInt8), nv = .int .i64 n ∧ p ≤ l.length ∧ n ≤ 4 * p ∧ Chg Never w wr ∧ Rdv w Never bv (l.drop p) ∧ IsB w.heap.size w.heap.size (Lib.byteCells acc) wr ∧ acc.length ≤ 5 * p ∧ Hid (acc ++ encGo (l.drop p) n = encL l)) (fun _ nv _ => (4 * l.length + 4 - intOf nv).toNat)
  case atStart => exact ⟨0, 0, [], rfl, Nat.zero_le _, Nat.le_refl _, (Chg.refl Never w).alloc _, h, Lib.IsBuilderF.of (Lib.fresh_isBuilder _ _ w), Nat.zero_le _, rfl⟩
  case round =>
    clear h h3
    obtain ⟨p, n, acc, rfl, hp, hn, hw, hb, hI, hacc, hR⟩ := hrel
    rename World => wr
    have hbs : w.heap.size ≤ wr.heap.size := hw.size
    obtain ⟨ab, capb, rfl, b1, b2, b3⟩ := rdv_slice hb
    unfold maxLen at b2
    have hdl : (l.drop p).length = l.length - p := List.length_drop
    by_cases hlt : p < l.length
    · have hne : l.drop p ≠ [] := fun e => by rw [e] at hdl; simp at hdl; omega
      have HE := Lib.hid (enc_cons hne n)
      have HR2 : Hid (acc ++ fourOf ((l.drop p).take 3) ++ (if (n + 4) % 76 = 0 ∨ (l.drop p).drop 3 = [] then [10] else []) ++ encGo ((l.drop p).drop 3) (n + 4) = encL l) := by
        rw [Hid, ← hR.out, HE.out]
        simp only [List.append_assoc]
      obtain ⟨r, hr⟩ : ∃ r, l.drop p = r := ⟨_, rfl⟩
      obtain ⟨q, hq⟩ : ∃ q, min 3 r.length = q := ⟨_, rfl⟩
      rw [hr] at hb b1 b3 hdl HR2 ⊢
      have hq1 : 1 ≤ q ∧ q ≤ 3 ∧ q ≤ r.length := by omega
      have hmin : min (3 : Int) (r.length : Int) = (q : Int) := by omega
      obtain ⟨sb, z0, z1, hrunH, hsub⟩ := slice_g (P := Tryz.prog) (t := 29) (by kernel_rfl) size_byte hb 0 q (Nat.zero_le _) hq1.2.2
      have hrunH := fun (wx : World) => hrunH (q : Nat) wx rfl rfl
      obtain ⟨st, y0, hrunT, y1, hsut⟩ := slice_g (P := Tryz.prog) (t := 29) (by kernel_rfl) size_byte hb q r.length hq1.2.2 (Nat.le_refl _)
      have hrunT := fun (wx : World) => hrunT (q : Nat) wx rfl rfl
      clear z0 z1 y0 y1 b3 hb hne
      rw [List.drop_zero, Nat.sub_zero, Nat.sub_zero, ← hq, take_min] at hsub
      rw [hq] at hsub
      rw [Nat.sub_zero, Nat.sub_zero] at hrunH
      rw [← hq, drop_min, List.take_of_length_le (by rw [List.length_drop]; omega), hq] at hsut
      have hf4 : Hid ((fourOf (r.take 3)).length = 4) := four_len _
      have HT : Hid ((r.drop 3 = []) ↔ r.length - q = 0) := by
        rw [Hid, List.drop_eq_nil_iff]; omega
      have HP : Hid (l.drop (p + q) = r.drop 3) := by
        rw [Hid, ← drop_min r, hq, ← hr, List.drop_drop]
      have HQ := Lib.hid hq
      have HRL : Hid (r.length = l.length - p) := hdl
      have hrl1 : r.length ≤ l.length := by have := HRL.out; omega
      have hrl2 : p + q ≤ l.length := by have := HRL.out; omega
      clear hq hr hdl
      have htk : (r.take 3).length ≤ 3 := by rw [List.length_take]; omega
      go_wp2_with fail
      refine (four_any (r.take 3) _ _ (hsub.never hw) htk).mono ?_
      rintro e w2 ⟨rfl, hc2⟩
      have hI2 := isB_keep hI hc2
      have hw2 := hw.trans hc2
      have hbs2 := hw2.size
      clear hc2 hI hsub hw
      go_wp2_with fail
      refine (bld_string w.heap.size w.heap.size (Lib.byteCells acc) (toB (fourOf (r.take 3))) _ hI2 (by rw [Lib.byteCells_length, Lib.size_eq, toB_data, hf4.out]; omega) hbs2).mono ?_
      rintro e w3 ⟨rfl, hI3, hb3⟩
      rw [Lib.strCells_eq, toB_data, ← Lib.byteCells_append] at hI3
      have hbs3 := hb3.size
      have hw3 : Chg Never w w3 := Chg.of_below (hw2.never.trans hb3)
      have hm : Hid (((n : Int) + 4) % 76 = (((n + 4) % 76 : Nat) : Int)) := by rw [Hid]; omega
      clear hb3 hw2
      by_cases hnl : (n + 4) % 76 = 0
      · have HR3 : Hid (acc ++ fourOf (r.take 3) ++ [10] ++ encGo (r.drop 3) (n + 4) = encL l) := by have := HR2.out; rw [if_pos (.inl hnl)] at this; exact this
        have t1 : (((n : Int) + 4) % 76 == 0) = true := by rw [hm.out, hnl]; rfl
        clear hm hnl
        go_wp2_with fail
        refine (bld_byte1 w.heap.size w.heap.size _ 10 _ (.inr hI3) (by rw [Lib.byteCells_length, List.length_append, hf4.out]; omega) hw3.size).mono ?_
        rintro e w4 ⟨rfl, hI4, hb4⟩
        have hwE : Chg Never w w4 := Chg.of_below (hw3.never.trans hb4)
        have hIE : IsB w.heap.size w.heap.size (Lib.byteCells (acc ++ fourOf (r.take 3) ++ [10])) w4 := .inr (by rw [Lib.byteCells_append]; exact hI4)
        clear hI4 hb4 hI3 hw3
        go_wp2_with fail
        go_roundw
        case rel => exact ⟨p + q, n + 4, acc ++ fourOf (r.take 3) ++ [10], by first | rfl | (congr 1), hrl2, by omega, hwE, by rw [HP.out]; exact hsut, hIE, by simp only [List.length_append, List.length_singleton, hf4.out]; omega, by rw [HP.out]; exact HR3.out⟩
        case measure => simp [intOf]; omega
      · by_cases hend : r.length - q = 0
        · have HR3 : Hid (acc ++ fourOf (r.take 3) ++ [10] ++ encGo (r.drop 3) (n + 4) = encL l) := by have := HR2.out; rw [if_pos (.inr (HT.out.2 hend))] at this; exact this
          have t1 : (((n : Int) + 4) % 76 == 0) = false := by rw [hm.out]; simp; omega
          have t2 : (((r.length - q : Nat) : Int) == 0) = true := by rw [hend]; rfl
          clear hm hnl hend
          go_wp2_with fail
          refine (bld_byte1 w.heap.size w.heap.size _ 10 _ (.inr hI3) (by rw [Lib.byteCells_length, List.length_append, hf4.out]; omega) hw3.size).mono ?_
          rintro e w4 ⟨rfl, hI4, hb4⟩
          have hwE : Chg Never w w4 := Chg.of_below (hw3.never.trans hb4)
          have hIE : IsB w.heap.size w.heap.size (Lib.byteCells (acc ++ fourOf (r.take 3) ++ [10])) w4 := .inr (by rw [Lib.byteCells_append]; exact hI4)
          clear hI4 hb4 hI3 hw3
          go_wp2_with fail
          go_roundw
          case rel => exact ⟨p + q, n + 4, acc ++ fourOf (r.take 3) ++ [10], by first | rfl | (congr 1), hrl2, by omega, hwE, by rw [HP.out]; exact hsut, hIE, by simp only [List.length_append, List.length_singleton, hf4.out]; omega, by rw [HP.out]; exact HR3.out⟩
          case measure => simp [intOf]; omega
        · have HR3 : Hid (acc ++ fourOf (r.take 3) ++ encGo (r.drop 3) (n + 4) = encL l) := by
            have := HR2.out
            rw [if_neg (by rintro (e | e); · exact hnl e
                           · exact hend (HT.out.1 e)), List.append_nil] at this
            exact this
          have t1 : (((n : Int) + 4) % 76 == 0) = false := by rw [hm.out]; simp; omega
          have t2 : (((r.length - q : Nat) : Int) == 0) = false := by simp; omega
          have hwE := hw3
          have hIE : IsB w.heap.size w.heap.size (Lib.byteCells (acc ++ fourOf (r.take 3))) w3 := .inr hI3
          clear hm hnl hend hw3 hI3
          go_wp2_with fail
          go_roundw
          case rel => exact ⟨p + q, n + 4, acc ++ fourOf (r.take 3), by first | rfl | (congr 1), hrl2, by omega, hwE, by rw [HP.out]; exact hsut, hIE, by simp only [List.length_append, List.length_singleton, hf4.out]; omega, by rw [HP.out]; exact HR3.out⟩
          case measure => simp [intOf]; omega
    · obtain rfl : p = l.length := by omega
      have hR' := hR.out
      rw [List.drop_length, encGo, List.append_nil] at hR'
      rw [hR'] at hI
      clear hR hR' hacc
      go_wp2_with fail
      refine (Tryz.Builder_String_any_k w.heap.size w.heap.size (encL l) _ hI hbs).mono ?_
      rintro e w4 ⟨rfl, _, b4, _⟩
      have hwE : Chg Never w w4 := Chg.of_below (hw.never.trans b4)
      go_wp2_with fail
      go_ret
      exact ⟨rfl, hwE⟩
end Go.Proofs.YtjiaidchcldocaaGreatDoor
