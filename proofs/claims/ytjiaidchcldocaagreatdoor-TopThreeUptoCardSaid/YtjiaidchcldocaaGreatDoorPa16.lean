/-
  PARTS: THE WALK of handstitchsame.Ints.; THE WALK of handstitchsame.Pick: some number below n.; THE WALK of the statements' word 'turned': mails in another order.; THE SHAPE OF A CHANGE AS THE DOCUMENT ASKS FOR IT, in plain Lean.; THE WALK of the document's HunksFault.; THE WALK of the document's PatchFault.; THE WALKS of the document's SplitOf, and of handstitchsame.Series.; HUNKS DONE FROM THE LAST ONE ON, in plain Lean: it comes to the same as from the first one on.; THE WALKS of the document's Stands, replaced, StrictOf.; THE WALK of the document's StrictOf.; THE WALK of the document's ApplyOf.; THE WALKS of handstitchsame.Series and of the document's Behind.; THE LAW SeriesBack, walked.
-/
import Derived.Test.YtjiaidchcldocaaGreatDoorPa15
import Derived.Test.YtjiaidchcldocaaGreatDoorPa1
import Derived.Test.YtjiaidchcldocaaGreatDoorPa2
import Derived.Test.YtjiaidchcldocaaGreatDoorPa7
import Derived.Test.YtjiaidchcldocaaGreatDoorPa14
import Derived.Test.YtjiaidchcldocaaGreatDoorPa8
import Derived.Test.YtjiaidchcldocaaGreatDoorPa5
import Derived.Test.YtjiaidchcldocaaGreatDoorPa3
import Derived.Deep.RegionHeld3
import Derived.BigQuiet
import Derived.Deep.Cut
import Derived.Test.YtjiaidchcldocaaGreatDoorPa12
import Derived.Test.YtjiaidchcldocaaGreatDoorPa4
import Derived.Test.YtjiaidchcldocaaGreatDoorPa11
import Derived.StillTailTactics
set_option linter.unusedVariables false
set_option linter.unusedSimpArgs false
namespace Go.Proofs.YtjiaidchcldocaaGreatDoor
open Go.RowKit

theorem elems_ints {w : World} {O : Nat → Prop} {a : Option Addr} {l : List Int} (h : Elems w O a l) {i : Nat} {x : Int} (hx : l[i]? = some x) :
    ∃ b off, a = some ⟨b, off, none⟩ ∧ ¬ O b ∧ w.cell? ⟨b, off + i, none⟩ = some (.int .i64 x) ∧ I64 x := by
  obtain ⟨b, off, es, ha, hb, hc, rfl, hr⟩ := h i x hx
  refine ⟨b, off, ha, hb, ?_, hr⟩
  have := hc 0 _ rfl
  rw [show off + i * Dat.n Int + 0 = off + i by show off + i * 1 + 0 = _; omega] at this
  exact this
end Go.Proofs.YtjiaidchcldocaaGreatDoor
namespace Go.Proofs.YtjiaidchcldocaaGreatDoor
open Go.RowKit

theorem tmod_nat {c : Int} {n : Nat} (hc : 0 ≤ c) (h0 : 0 < n) : ∃ k : Nat, k < n ∧ Int.tmod c (n : Int) = (k : Int) := by
  obtain ⟨d, rfl⟩ : ∃ d : Nat, c = d := ⟨c.toNat, by omega⟩
  exact ⟨d % n, Nat.mod_lt _ h0, by rw [Int.tmod_eq_emod_of_nonneg (by omega)]; omega⟩
set_option maxHeartbeats 1000000 in
theorem pick_any (c : Int) (n : Nat) (w : World) (hc : I64 c) (h0 : 0 < n) (hn : n ≤ 1000000000) :
    Calls Tryz.prog 16 #[.int .i64 c, .int .i64 n] w fun e w' => ∃ k : Nat, k < n ∧ e = .returned (.int .i64 k) ∧ w' = w := by
  unfold I64 at hc
  have n0 : ((n : Int) == 0) = false := by simp; omega
  have n1 : ((n : Int) != 0) = true := by simp; omega
  by_cases h : c < 0
  · have t1 : decide (c < 0) = true := decide_eq_true h
    have s1 : IntKind.i64.wrap (c + 1) = c + 1 := IntWalk.i64_in _ (by omega)
    have s2 : IntKind.i64.wrap (-(c + 1)) = -(c + 1) := IntWalk.i64_in _ (by omega)
    obtain ⟨k, hk, e⟩ := tmod_nat (c := -(c + 1)) (by omega) h0
    have s3 : IntKind.i64.wrap (k : Int) = k := IntWalk.i64_in _ (by omega)
    have HE := Lib.hid e
    go_enter Tryz.func16, Tryz.ntmps16
    go_wp2_with fail
    go_ret
    exact ⟨k, hk, rfl, rfl⟩
  · have t1 : decide (c < 0) = false := decide_eq_false h
    obtain ⟨k, hk, e⟩ := tmod_nat (c := c) (by omega) h0
    have s3 : IntKind.i64.wrap (k : Int) = k := IntWalk.i64_in _ (by omega)
    go_enter Tryz.func16, Tryz.ntmps16
    go_wp2_with fail
    go_ret
    exact ⟨k, hk, rfl, rfl⟩
end Go.Proofs.YtjiaidchcldocaaGreatDoor
namespace Go.Proofs.YtjiaidchcldocaaGreatDoor
open Go.RowKit

theorem move_perm {α : Type} {L : List α} {j : Nat} {x : α} (h : L[j]? = some x) : (L.take j ++ L.drop (j + 1) ++ [x]).Perm L := by
  obtain ⟨hj, e⟩ := List.getElem?_eq_some_iff.1 h
  have e2 : L = L.take j ++ x :: L.drop (j + 1) := by
    conv => lhs; rw [← List.take_append_drop j L, List.drop_eq_getElem_cons hj, e]
  conv => rhs; rw [e2]
  rw [List.append_assoc]
  exact List.Perm.append_left _ (List.perm_append_singleton x _)
theorem size_mail (w : World) : (sizeOf (Tryz.prog.elem 24)).run Tryz.prog w = .ok 4 w := by kernel_rfl
set_option maxHeartbeats 1000000 in
set_option maxRecDepth 100000 in
theorem lturned_any (l : List Mail) (ord : List Int) (v vo : Value) (w : World) (h : Rdv w Never v l) (ho : Rdv w Never vo ord) (hl : l.length ≤ 1000000) :
    Calls Tryz.prog 13 #[v, vo] w fun e w' => ∃ (r : Value) (L : List Mail), e = .returned r ∧ Chg Never w w' ∧ Rdv w' Never r L ∧ List.Perm L l := by
  obtain ⟨a, cap, rfl, h1, h2, _⟩ := rdv_slice h
  obtain ⟨oa, ocap, rfl, o1, o2, o3⟩ := rdv_slice ho
  unfold maxLen at h2 o2
  have hn0 := ownN_nil (α := Mail) 31 (Chg.refl Never w)
  have hle : ([] : List Mail).length + l.length ≤ 1000000000 := by simp; omega
  go_enter Tryz.func13, Tryz.ntmps13
  go_wp2_with (at_builtin; refine wpList_many2 (by rfl) _ _ 24 (by rfl) elemOk_mail (O := Never) (l := []) (m := l) (by rfl) (by rfl) hn0.own (hn0.away h) (fun _ h => h.elim) hle ?_; intro v1 w1 hw1 hd1 hk1; have hn1 := hn0.step hw1 hd1 hk1; clear hw1 hd1 hk1 hn0; obtain ⟨s1, n1, c1, rfl⟩ := own_isSlice hn1.own)
  rw [List.nil_append] at hn1
  have hcw := hn1.chg
  have hr1 := hn1.own.rdv
  clear hn1
  go_loopw [5, 6] (fun ov iv wr => ∃ (k : Nat) (L : List Mail), k ≤ ord.length ∧ k ≤ 20 ∧ iv = .int .i64 k ∧ Chg Never w wr ∧ Rdv wr Never ov L ∧ Hid (L.Perm l)) (fun _ iv _ => 20 - (intOf iv).toNat)
  case atStart => exact ⟨0, l, Nat.zero_le _, Nat.zero_le _, rfl, hcw, hr1, List.Perm.refl _⟩
  case round =>
    clear hcw hr1
    obtain ⟨k, L, hk, hk20, rfl, hc, hL, hp⟩ := hrel
    rename World => wr
    obtain ⟨la, lc, rfl, l1, l2, l3⟩ := rdv_slice hL
    have hL9 : L.length ≤ 1000000 := by have := hp.out.length_eq; omega
    by_cases hlt : k < ord.length
    · have t1 : decide ((k : Int) < (ord.length : Int)) = true := decide_eq_true (by omega)
      by_cases hlt2 : k < 20
      · have t2 : decide ((k : Int) < 20) = true := decide_eq_true (by omega)
        by_cases h0 : 0 < L.length
        · have t3 : decide ((0 : Int) < (L.length : Int)) = true := decide_eq_true (by omega)
          have t3n : decide (0 < L.length) = true := decide_eq_true h0
          have t3g : decide ((L.length : Int) > 0) = true := t3
          obtain ⟨c, hx⟩ : ∃ c, ord[k]? = some c := ⟨ord[k]'(by omega), List.getElem?_eq_getElem (by omega)⟩
          obtain ⟨ob, oo, rfl, -, co, hci⟩ := elems_ints o3 hx
          have co := hc.cellNever co
          have p1 : (k : Int) < (ord.length : Int) := by omega
          clear hx o3
          go_wp2_with fail
          refine (pick_any c L.length _ hci h0 (by omega)).mono ?_
          rintro e w2 ⟨j, hj, rfl, rfl⟩
          rename World => wr
          obtain ⟨x, hx⟩ : ∃ x, L[j]? = some x := ⟨L[j]'(by omega), List.getElem?_eq_getElem (by omega)⟩
          obtain ⟨b, off, bv, rfl, _, _, c0, c1, c2, c3, z0, z1, z2, hv⟩ := elems_mail l3 hx
          obtain ⟨ba, bc, rfl, _, _, _⟩ := rdv_slice hv
          have hA : Chg Never wr (wr.alloc (.cells #[.string x.sender, .string x.subject, .string x.ident, .slice ba x.body.length bc] 31)) := (Chg.refl Never wr).alloc _
          obtain ⟨_, g0, g1, g2, g3⟩ := box1_mail wr 31 x.sender x.subject x.ident (.slice ba x.body.length bc) _ rfl
          have HP := Lib.hid ((move_perm hx).trans hp.out)
          have jlt : (j : Int) < (L.length : Int) := by omega
          have sN : IntKind.i64.wrap ((j : Int) + 1) = (j : Int) + 1 := IntWalk.i64_in _ (by omega)
          obtain ⟨sb1, u0, u1, hrunH, hsub1⟩ := slice_gen (P := Tryz.prog) (t := 24) (by kernel_rfl) size_mail (hL.never hA) 0 j (Nat.zero_le _) (by omega)
          have hrunH := fun (wx : World) => hrunH j wx rfl rfl
          clear u0 u1
          rw [Nat.sub_zero, Nat.sub_zero] at hrunH hsub1
          rw [List.drop_zero] at hsub1
          obtain ⟨sb2, u0, hrunL, u1, hsub2⟩ := slice_gen (P := Tryz.prog) (t := 24) (by kernel_rfl) size_mail (hL.never hA) (j + 1) L.length (by omega) (Nat.le_refl _)
          have hrunL := fun (wx : World) => hrunL ((j : Int) + 1) wx (by push_cast; rfl) rfl
          clear u0 u1
          rw [List.take_of_length_le (by rw [List.length_drop]; omega)] at hsub2
          have hvA := hv.never hA
          have hn := ownN_nil (α := Mail) 31 (Chg.refl Never (wr.alloc (.cells #[.string x.sender, .string x.subject, .string x.ident, .slice ba x.body.length bc] 31)))
          have hle1 : ([] : List Mail).length + (L.take j).length ≤ 1000000000 := by simp; omega
          have hle2 : (L.take j).length + (L.drop (j + 1)).length ≤ 1000000000 := by simp; omega
          have hle3 : (L.take j ++ L.drop (j + 1)).length ≤ 1000000000 := by simp; omega
          have hcA := hc.trans hA
          have hsub1 := hn.away hsub1
          obtain ⟨T, hT⟩ : ∃ T, L.take j = T := ⟨_, rfl⟩
          obtain ⟨D, hD⟩ : ∃ D, L.drop (j + 1) = D := ⟨_, rfl⟩
          rw [hT] at hsub1 hle1 hle2 hle3 HP
          rw [hD] at hsub2 hle2 hle3 HP
          have G0 := Lib.hid g0
          have G1 := Lib.hid g1
          have G2 := Lib.hid g2
          have G3 := Lib.hid g3
          clear l3 hx hv hL hp hT hD hc hA g0 g1 g2 g3
          go_wp2_with (first
            | (at_builtin; refine wpList_many2 (by rfl) _ _ 24 (by rfl) elemOk_mail (O := Never) (l := []) (m := T) (by rfl) (by rfl) hn.own hsub1 (fun _ h => h.elim) hle1 ?_; intro v1 w1 hw1 hd1 hk1; have hn1 := hn.step hw1 hd1 hk1; rw [List.nil_append] at hn1; have hs2 := hn1.away hsub2; clear hw1 hd1 hk1 hn hsub1 hsub2; obtain ⟨s1, n1, c1, rfl⟩ := own_isSlice hn1.own)
            | (at_builtin; refine wpList_many2 (by rfl) _ _ 24 (by rfl) elemOk_mail (O := Never) (l := T) (m := D) (by rfl) (by rfl) hn1.own hs2 (fun _ h => h.elim) hle2 ?_; intro v2 w2 hw2 hd2 hk2; have hn2 := hn1.step hw2 hd2 hk2; clear hw2 hd2 hk2 hn1 hs2; obtain ⟨s2, n2, c2, rfl⟩ := own_isSlice hn2.own; have g0 := hn2.chg.cellNever G0.out; have g1 := hn2.chg.cellNever G1.out; have g2 := hn2.chg.cellNever G2.out; have g3 := hn2.chg.cellNever G3.out; have hy : Dat.rd w2 (fun k => Never k ∨ (Value.slice s2 n2 c2).ownBlock = some k) [.string x.sender, .string x.subject, .string x.ident, .slice ba x.body.length bc] x := ⟨_, rfl, z0, z1, z2, hn2.away hvA⟩)
            | (at_builtin; refine wpList_push (by rfl) _ _ 24 (by rfl) elemOk_mail (O := Never) (l := T ++ D) (y := x) (by rfl) (by rfl) (by rfl) hn2.own hy (fun _ h => h.elim) hle3 ?_; intro v3 w3 hown3 hc3 hk3; have hn3 := hn2.step1 hown3 hc3 hk3; clear hown3 hc3 hk3 hy hn2 g0 g1 g2 g3; obtain ⟨s3, n3, c3', rfl⟩ := own_isSlice hn3.own))
          have hcf := hcA.trans hn3.chg
          have hrf := hn3.own.rdv
          clear hn3 hcA G0 G1 G2 G3 hvA
          go_roundw
          case rel => exact ⟨k + 1, _, by omega, by omega, by go_num, hcf, hrf, HP⟩
          case measure => simp [intOf] <;> omega
        · have t3 : decide ((0 : Int) < (L.length : Int)) = false := decide_eq_false (by omega)
          have t3n : decide (0 < L.length) = false := decide_eq_false h0
          clear l3 o3
          go_wp2_with fail
          go_ret
          exact ⟨_, L, rfl, hc, hL, hp.out⟩
      · have t2 : decide ((k : Int) < 20) = false := decide_eq_false (by omega)
        clear l3 o3
        go_wp2_with fail
        go_ret
        exact ⟨_, L, rfl, hc, hL, hp.out⟩
    · have t1 : decide ((k : Int) < (ord.length : Int)) = false := decide_eq_false (by omega)
      clear l3 o3
      go_wp2_with fail
      go_ret
      exact ⟨_, L, rfl, hc, hL, hp.out⟩
end Go.Proofs.YtjiaidchcldocaaGreatDoor
namespace Go.Proofs.YtjiaidchcldocaaGreatDoor

end Go.Proofs.YtjiaidchcldocaaGreatDoor
namespace Go.Proofs.YtjiaidchcldocaaGreatDoor
open Go.RowKit

def moreTo (l : List Hunk) (k : Nat) : Int := ((l.take k).map fun h => (newN h.marks : Int) - oldN h.marks).sum
theorem moreTo_succ {l : List Hunk} {k : Nat} {x : Hunk} (hx : l[k]? = some x) : moreTo l (k + 1) = moreTo l k + ((newN x.marks : Int) - oldN x.marks) := by
  unfold moreTo
  rw [List.take_add_one, hx]
  simp
/-- what has come ahead of number k -/
structure PrevOk (l : List Hunk) (k : Nat) (fin more : Int) : Prop where
  ok : ∀ y ∈ l.take k, scriptFault y.marks = 0
  zero : k = 0 → fin = 0
  prev : ∀ x, 0 < k → l[k - 1]? = some x → fin = x.old + oldN x.marks
  eq : more = moreTo l k
  bound : ∀ x, 0 < k → l[k - 1]? = some x → 0 ≤ x.old ∧ x.old ≤ 60
theorem PrevOk.step {l : List Hunk} {k : Nat} {fin more : Int} {x : Hunk} (h : PrevOk l k fin more) (hx : l[k]? = some x) (hz : oneFault x fin more = 0) : PrevOk l (k + 1) (x.old + oldN x.marks) (more + newN x.marks - oldN x.marks) := by
  obtain ⟨h0, _, z3, _, z5, _⟩ := oneFault_zero hz
  refine ⟨take_all_succ h.ok hx h0, fun e => by omega, fun y _ hy => ?_, ?_, fun y _ hy => ?_⟩
  · rw [Nat.add_sub_cancel, hx] at hy
    injection hy with hy
    rw [hy]
  · rw [moreTo_succ hx, h.eq]; omega
  · rw [Nat.add_sub_cancel, hx] at hy
    injection hy with hy
    rw [← hy]
    omega
end Go.Proofs.YtjiaidchcldocaaGreatDoor
namespace Go.Proofs.YtjiaidchcldocaaGreatDoor
open Go.RowKit

end Go.Proofs.YtjiaidchcldocaaGreatDoor
namespace Go.Proofs.YtjiaidchcldocaaGreatDoor
open Go.RowKit

end Go.Proofs.YtjiaidchcldocaaGreatDoor
namespace Go.Proofs.YtjiaidchcldocaaGreatDoor

end Go.Proofs.YtjiaidchcldocaaGreatDoor
namespace Go.Proofs.YtjiaidchcldocaaGreatDoor
open Go.RowKit

end Go.Proofs.YtjiaidchcldocaaGreatDoor
namespace Go.Proofs.YtjiaidchcldocaaGreatDoor
open Go.RowKit

end Go.Proofs.YtjiaidchcldocaaGreatDoor
namespace Go.Proofs.YtjiaidchcldocaaGreatDoor
open Go.RowKit

end Go.Proofs.YtjiaidchcldocaaGreatDoor
namespace Go.Proofs.YtjiaidchcldocaaGreatDoor
open Go.RowKit

set_option maxHeartbeats 1000000 in
set_option maxRecDepth 100000 in
theorem series_any (l m : List (List Change)) (v u : Value) (w : World) (h : Rdv w Never v l) (g : Rdv w Never u m) :
    Calls Tryz.prog 14 #[v, u] w fun e w' => e = .returned (.bool (decide (l = m))) ∧ Chg Never w w' := by
  obtain ⟨a, cap, rfl, h1, h2, h3⟩ := rdv_slice h
  obtain ⟨c, cap', rfl, g1, g2, g3⟩ := rdv_slice g
  unfold maxLen at h2 g2
  by_cases h4 : l.length = m.length
  · have h4' : ((l.length : Int) != m.length) = false := by simp [h4]
    have H4 := Lib.hid h4
    clear h4
    go_enter Tryz.func14, Tryz.ntmps14
    go_wp2_with fail
    go_loopw [5] (fun i wr => ∃ k : Nat, k ≤ l.length ∧ i = .int .i64 k ∧ Hid (l.take k = m.take k) ∧ Chg Never w wr) (fun i _ => l.length - (intOf i).toNat)
    case atStart => exact ⟨0, Nat.zero_le _, rfl, by simp [Hid], Chg.refl _ _⟩
    case round =>
      obtain ⟨k, hk, rfl, hf, hc⟩ := hrel
      by_cases hlt : k < l.length
      · obtain ⟨x, hx⟩ : ∃ x, l[k]? = some x := ⟨l[k], by simp [hlt]⟩
        obtain ⟨y, hy⟩ : ∃ y, m[k]? = some y := ⟨m[k]'(by rw [← H4.out]; exact hlt), by simp [H4.out ▸ hlt]⟩
        obtain ⟨b, off, mv, rfl, _, _, c0, hmv⟩ := elems_list h3 hx
        obtain ⟨b', off', mv', rfl, _, _, d0, hmv'⟩ := elems_list g3 hy
        have c0 := hc.cellNever c0
        have d0 := hc.cellNever d0
        have hmv := hmv.never hc
        have hmv' := hmv'.never hc
        clear h3 g3 h g
        have hlm : k < m.length := by rw [← H4.out]; exact hlt
        have HX := Lib.hid hx
        have HY := Lib.hid hy
        clear hx hy
        have b1 : (k : Int) < l.length := by omega
        have b2 : (k : Int) < m.length := by omega
        go_wp2_with fail
        refine wp_region_still_tail 8 (by kernel_rfl) (by kernel_rfl) ?_
        simp only [List.take_succ_cons, List.take_zero, List.drop_succ_cons, List.drop_zero]
        change wpStill _ _ wr.drew _ _ _
        repeat still_step
        refine wpStill_nil ?_
        change wpList _ _ _ _ _ wr.drew
        have hcd : Chg Never w wr.drew := hc.drew
        have hmd := hmv.never ((Chg.refl Never wr).drew)
        have hmd' := hmv'.never ((Chg.refl Never wr).drew)
        generalize wr.drew = w3 at hcd hmd hmd'
        clear hmv hmv' c0 d0 hc
        go_wp2_with fail
        refine (patches_any x y _ _ _ hmd hmd').mono ?_
        rintro e w4 ⟨rfl, hc4⟩
        have hc5 := hcd.trans hc4
        by_cases hxy : x = y
        · have HXY := Lib.hid hxy
          rw [decide_eq_true hxy]
          clear hxy
          go_wp2_with fail
          go_roundw
          case rel => exact ⟨k + 1, by omega, by go_num, take_same hf HX.out (by rw [HXY.out]; exact HY.out), hc5⟩
          case measure => simp [intOf] <;> omega
        · have HN := Lib.hid (decide_eq_false (ne_of_get HX.out HY.out hxy))
          rw [decide_eq_false hxy]
          clear hxy
          go_wp2_with fail
          go_ret
          exact ⟨by rw [HN.out]; rfl, hc5⟩
      · go_wp2_with fail
        go_ret
        have E : l = m := by
          have := hf.out
          rwa [List.take_of_length_le (by omega), List.take_of_length_le (by rw [← H4.out]; omega)] at this
        exact ⟨by rw [decide_eq_true E]; rfl, hc⟩
  · have h4' : ((l.length : Int) != m.length) = true := by simp; omega
    go_enter Tryz.func14, Tryz.ntmps14
    go_wp2_with fail
    go_ret
    exact ⟨by rw [decide_eq_false (fun e => h4 (by rw [e]))]; rfl, Chg.refl _ _⟩
/-! ### Behind -/
end Go.Proofs.YtjiaidchcldocaaGreatDoor
namespace Go.Proofs.YtjiaidchcldocaaGreatDoor
open Go.RowKit

def xW : ByteArray := ⟨#[120]⟩
theorem x_pack : packF xW.data.toList [] = 0 ∧ packR xW.data.toList [] = [partMail xW.data.toList 0 0 []] := by
  have h : packF xW.data.toList [] = 0 := by decide +kernel
  exact ⟨h, by unfold packR; rw [if_pos h]; rfl⟩
theorem x_subj : (partMail xW.data.toList 0 0 []).subject = ⟨#[91, 80, 65, 84, 67, 72, 32, 48, 47, 48, 93, 32, 120]⟩ ∧ (partMail xW.data.toList 0 0 []).ident = ⟨#[48, 46, 48]⟩ := by decide +kernel
theorem packL_len (t : List UInt8) (p : List (List Change)) : (packL t p).length = p.length + 1 := by unfold packL; rw [List.length_cons, packGo_len]
set_option maxHeartbeats 1000000 in
set_option maxRecDepth 100000 in
theorem law_seriesBack (t : ByteArray) (p : List (List Change)) (ord : List Int) (vp vo : Value) (w : World) (ht : t.size ≤ 1048576) (hp : Rdv w Never vp p) (ho : Rdv w Never vo ord) (m : Int) (_hm : w.cell? ⟨1, 0, none⟩ = some (.int .i64 m)) (hg : Globs w m) :
    Calls Tryz.prog 3 #[.string t, vp, vo] w fun e w' => e = .returned (.bool true) ∧ Chg Never w w' := by
  have HX := Lib.hid x_pack
  have HS := Lib.hid x_subj
  obtain ⟨pa, pc, rfl, p1, p2, _⟩ := rdv_slice hp
  obtain ⟨oa, oc, rfl, _, _, _⟩ := rdv_slice ho
  unfold maxLen at p2
  go_enter Tryz.func3, Tryz.ntmps3
  go_wp2_with fail
  refine (pack_any xW [] _ _ (rdv_nil _ _) (by decide) m hg.ml).mono ?_
  rintro e w1 ⟨r1, rfl, hw, hr1⟩
  rw [HX.out.1, errV_zero]
  rw [HX.out.2] at hr1
  obtain ⟨ra, rc, rfl, _, _, r3⟩ := rdv_slice hr1
  obtain ⟨b, off, bv, rfl, _, _, c0, c1, c2, c3, _, _, _, _⟩ := elems_mail r3 (i := 0) rfl
  rw [HS.out.1] at c1
  rw [HS.out.2] at c2
  simp only [Nat.zero_mul, Nat.add_zero] at c0 c1 c2 c3
  clear r3 hr1 c0 c3
  go_wp2_with fail
  refine (pack_any t p _ _ (hp.never hw) (by omega) m (hg.never hw).ml).mono ?_
  rintro e w2 ⟨r2, rfl, hc2, hr2⟩
  have hw := hw.trans hc2
  clear c1 c2 hc2
  by_cases hz : packF t.data.toList p = 0
  · have h8 := (packF_ok hz).1
    have hll := packL_len t.data.toList p
    have HP := Lib.hid (fun (L : List Mail) (q : List.Perm L (packL t.data.toList p)) => openMs_perm hz q)
    rw [show packR t.data.toList p = packL t.data.toList p from if_pos hz] at hr2
    rw [hz, errV_zero]
    generalize packL t.data.toList p = l at hr2 HP hll
    obtain ⟨la, lc, rfl, _, _, _⟩ := rdv_slice hr2
    have sN : IntKind.i64.wrap ((p.length : Int) + 1) = (p.length : Int) + 1 := IntWalk.i64_in _ (by omega)
    have t1 : ((l.length : Int) == (p.length : Int) + 1) = true := beq_iff_eq.2 (by omega)
    have t2 : ((l.length : Int) != (p.length : Int) + 1) = false := by rw [bne, t1]; rfl
    have hl6 : l.length ≤ 1000000 := by omega
    clear hz hll
    go_wp2_with fail
    refine (lturned_any l ord _ _ _ hr2 (ho.never hw) hl6).mono ?_
    rintro e w3 ⟨r3, L, rfl, hc3, hr3, hperm⟩
    have hw := hw.trans hc3
    have hL9 : L.length ≤ 1000000000 := by rw [hperm.length_eq]; omega
    have HO := Lib.hid (HP.out L hperm)
    clear hperm hc3 hr2 t1 t2
    go_wp2_with fail
    refine (sopen_any L _ _ hr3 hL9 m (hg.never hw)).mono ?_
    rintro e w4 ⟨r4, rfl, hc4, hr4⟩
    have hw := hw.trans hc4
    rw [HO.out, toB_of, errV_zero]
    rw [HO.out] at hr4
    clear hc4 hr3
    obtain ⟨qa, qc, rfl, _, _, _⟩ := rdv_slice hr4
    go_wp2_with fail
    refine (series_any p p _ _ _ hr4 (hp.never hw)).mono ?_
    rintro e w5 ⟨rfl, hc5⟩
    have hw := hw.trans hc5
    rw [decide_eq_true rfl]
    have tt : (t.toList == t.toList) = true := by simp
    clear hr4 hc5
    go_wp2_with fail
    go_ret
    exact ⟨rfl, hw⟩
  · rw [errV_pos hz]
    obtain ⟨la, lc, rfl, _, _, _⟩ := rdv_slice hr2
    generalize (packR t.data.toList p).length = n
    clear hz hr2
    go_wp2_with fail
    go_ret
    exact ⟨rfl, hw⟩
end Go.Proofs.YtjiaidchcldocaaGreatDoor
