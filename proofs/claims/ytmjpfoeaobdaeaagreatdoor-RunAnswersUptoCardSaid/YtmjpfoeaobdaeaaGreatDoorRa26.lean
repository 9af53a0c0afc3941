/-
  PARTS: THE WALK of (*session).act: diff, go; with numbers that cannot be read.; THE WALK of (*session).act: far.; THE WALK of (*session).act: same, back, diff.; THE WALK of line's deferred closure: a panic of a number that cannot be read is recovered, and the answer is 'bad'.; A MAP FROM TEXTS TO NUMBERS that the call has made: what it holds, as a function.; THE WALK of (*session).line.
-/
import Derived.Test.YtmjpfoeaobdaeaaGreatDoorRa16
import Derived.Test.YtmjpfoeaobdaeaaGreatDoorRa25
import Derived.BigRegion
import Derived.Recover
import Derived.Laws.Pointers
import Derived.Test.YtmjpfoeaobdaeaaGreatDoorRa1
import Derived.Maps.OwnOps
import Derived.Maps.Views
set_option linter.unusedVariables false
set_option linter.unusedSimpArgs false
namespace Go.Proofs.YtmjpfoeaobdaeaaGreatDoor
open Go.RowKit

theorem numRP_none {s : List UInt8} {w w' : World} {e : Ending} (h : numM 4 s = none) (hp : NumRP s w e w') : e = .panicked unreadP ∧ Chg Never w w' := by
  obtain ⟨h1, h2⟩ := hp
  rw [h] at h2
  exact ⟨h2, h1⟩
theorem numRP_some {s : List UInt8} {n : Nat} {w w' : World} {e : Ending} (h : numM 4 s = some n) (hp : NumRP s w e w') : e = .returned (.int .i64 n) ∧ Chg Never w w' := by
  obtain ⟨h1, h2⟩ := hp
  rw [h] at h2
  exact ⟨h2, h1⟩
set_option maxHeartbeats 4000000 in
set_option maxRecDepth 100000 in
theorem act_diff_ok (b : Nat) (O : Nat → Prop) (m : Ses) (p : ByteArray) (ws : Value) (w : World) (vo vn : Value) (mx : Int) (h : ActIn b O m w vo vn mx) (hws : Rdv w Never ws [toB diffW, p]) (hp : p.size ≤ 1000000000) (n : Nat) (hnm : numM 4 p.data.toList = some n) :
    Calls Tryz.prog 22 #[.pointer (some ⟨b, 0, none⟩), ws] w (ActPost b O (m, diffS m n) false w) := by
  have hn9 := numM4_lt hnm
  have HN := Lib.hid hnm
  obtain ⟨c0, c1⟩ := h.box.cell
  have hb := h.box
  have ho := h.old
  have hn := h.new
  have hOb := h.ob
  have hOl := h.lt
  have hok := h.ok
  have hb9 := h.b9
  have hg := h.gl
  have he := h.er
  have hon : Rdv w Never vo m.old := ho.sub (fun _ _ h => h.elim)
  have hnn : Rdv w Never vn m.new := hn.sub (fun _ _ h => h.elim)
  obtain ⟨oa, oc, rfl, _, _, _⟩ := rdv_slice ho
  obtain ⟨na, nc, rfl, _, _, _⟩ := rdv_slice hn
  clear h
  obtain ⟨wa, wc, rfl, wz1, wz2, wz3⟩ := rdv_slice hws
  obtain ⟨wb, woff, rfl, _, _, k0, _⟩ := elems_str wz3 (i := 0) rfl
  obtain ⟨wb', woff', hwe, _, _, k1, hps⟩ := elems_str wz3 (i := 1) rfl
  injection hwe with hwe
  injection hwe with hwe1 hwe2 _
  subst hwe1 hwe2
  clear wz3 hws
  simp only [List.length_cons, List.length_nil, Nat.add_zero, Nat.zero_add, Nat.reduceAdd] at k0 k1 wz1 ⊢
  have t1 : ((toB diffW).toList == [100, 114, 111, 112]) = false := by rw [wtest]; decide
  have t2 : ((toB diffW).toList == [100, 105, 102, 102]) = true := by rw [wtest]; decide
  have t3 : ((toB diffW).toList == [102, 97, 114]) = false := by rw [wtest]; decide
  have t4 : ((toB diffW).toList == [103, 111]) = false := by rw [wtest]; decide
  have t5 : ((toB diffW).toList == [115, 97, 109, 101]) = false := by rw [wtest]; decide
  generalize toB diffW = X at k0 t1 t2 t3 t4 t5
  clear hnm
  go_enter Tryz.func22, Tryz.ntmps22
  go_wp2_with fail
  refine (rnumber_any p hp _ mx hg).mono ?_
  rintro e w1 hp1
  obtain ⟨rfl, hw1⟩ := numRP_some HN.out hp1
  clear hp1
  have hi := rdiff_any b m n hn9 _ _ _ (hb.keep hw1 (fun x => x)) (hon.never hw1) (hnn.never hw1) hok mx (hw1.cellNever hg.ml) (hw1.cellNever he)
  go_wp2_with fail
  refine hi.mono ?_
  rintro e w2 ⟨rfl, hc2⟩
  have hw2 := hw1.trans hc2
  go_wp2_with fail
  go_ret
  exact ⟨hw2.mono (fun _ _ h => h.elim), ⟨_, _, hb.keep hw2 (fun x => x), ho.never hw2, hn.never hw2⟩, rfl⟩
set_option maxHeartbeats 4000000 in
set_option maxRecDepth 100000 in
theorem act_diff_no (b : Nat) (O : Nat → Prop) (m : Ses) (p : ByteArray) (ws : Value) (w : World) (vo vn : Value) (mx : Int) (h : ActIn b O m w vo vn mx) (hws : Rdv w Never ws [toB diffW, p]) (hp : p.size ≤ 1000000000) (hnm : numM 4 p.data.toList = none) :
    Calls Tryz.prog 22 #[.pointer (some ⟨b, 0, none⟩), ws] w (ActPost b O (m, badL) true w) := by
  have HN := Lib.hid hnm
  obtain ⟨c0, c1⟩ := h.box.cell
  have hb := h.box
  have ho := h.old
  have hn := h.new
  have hOb := h.ob
  have hOl := h.lt
  have hok := h.ok
  have hb9 := h.b9
  have hg := h.gl
  have he := h.er
  have hon : Rdv w Never vo m.old := ho.sub (fun _ _ h => h.elim)
  have hnn : Rdv w Never vn m.new := hn.sub (fun _ _ h => h.elim)
  obtain ⟨oa, oc, rfl, _, _, _⟩ := rdv_slice ho
  obtain ⟨na, nc, rfl, _, _, _⟩ := rdv_slice hn
  clear h
  obtain ⟨wa, wc, rfl, wz1, wz2, wz3⟩ := rdv_slice hws
  obtain ⟨wb, woff, rfl, _, _, k0, _⟩ := elems_str wz3 (i := 0) rfl
  obtain ⟨wb', woff', hwe, _, _, k1, hps⟩ := elems_str wz3 (i := 1) rfl
  injection hwe with hwe
  injection hwe with hwe1 hwe2 _
  subst hwe1 hwe2
  clear wz3 hws
  simp only [List.length_cons, List.length_nil, Nat.add_zero, Nat.zero_add, Nat.reduceAdd] at k0 k1 wz1 ⊢
  have t1 : ((toB diffW).toList == [100, 114, 111, 112]) = false := by rw [wtest]; decide
  have t2 : ((toB diffW).toList == [100, 105, 102, 102]) = true := by rw [wtest]; decide
  have t3 : ((toB diffW).toList == [102, 97, 114]) = false := by rw [wtest]; decide
  have t4 : ((toB diffW).toList == [103, 111]) = false := by rw [wtest]; decide
  have t5 : ((toB diffW).toList == [115, 97, 109, 101]) = false := by rw [wtest]; decide
  generalize toB diffW = X at k0 t1 t2 t3 t4 t5
  clear hnm
  go_enter Tryz.func22, Tryz.ntmps22
  go_wp2_with fail
  refine (rnumber_any p hp _ mx hg).mono ?_
  rintro e w1 hp1
  obtain ⟨rfl, hw1⟩ := numRP_none HN.out hp1
  clear hp1
  go_wp2_with fail
  exact ⟨rfl, hw1.mono (fun _ _ h => h.elim), ⟨_, _, hb.keep hw1 (fun x => x), ho.never hw1, hn.never hw1⟩, rfl⟩
set_option maxHeartbeats 4000000 in
set_option maxRecDepth 100000 in
theorem act_go_no (b : Nat) (O : Nat → Prop) (m : Ses) (p : ByteArray) (ws : Value) (w : World) (vo vn : Value) (mx : Int) (h : ActIn b O m w vo vn mx) (hws : Rdv w Never ws [toB goW, p]) (hp : p.size ≤ 1000000000) (hnm : numM 4 p.data.toList = none) :
    Calls Tryz.prog 22 #[.pointer (some ⟨b, 0, none⟩), ws] w (ActPost b O (m, badL) true w) := by
  have HN := Lib.hid hnm
  obtain ⟨c0, c1⟩ := h.box.cell
  have hb := h.box
  have ho := h.old
  have hn := h.new
  have hOb := h.ob
  have hOl := h.lt
  have hok := h.ok
  have hb9 := h.b9
  have hg := h.gl
  have he := h.er
  have hon : Rdv w Never vo m.old := ho.sub (fun _ _ h => h.elim)
  have hnn : Rdv w Never vn m.new := hn.sub (fun _ _ h => h.elim)
  obtain ⟨oa, oc, rfl, _, _, _⟩ := rdv_slice ho
  obtain ⟨na, nc, rfl, _, _, _⟩ := rdv_slice hn
  clear h
  obtain ⟨wa, wc, rfl, wz1, wz2, wz3⟩ := rdv_slice hws
  obtain ⟨wb, woff, rfl, _, _, k0, _⟩ := elems_str wz3 (i := 0) rfl
  obtain ⟨wb', woff', hwe, _, _, k1, hps⟩ := elems_str wz3 (i := 1) rfl
  injection hwe with hwe
  injection hwe with hwe1 hwe2 _
  subst hwe1 hwe2
  clear wz3 hws
  simp only [List.length_cons, List.length_nil, Nat.add_zero, Nat.zero_add, Nat.reduceAdd] at k0 k1 wz1 ⊢
  have t1 : ((toB goW).toList == [100, 114, 111, 112]) = false := by rw [wtest]; decide
  have t2 : ((toB goW).toList == [100, 105, 102, 102]) = false := by rw [wtest]; decide
  have t3 : ((toB goW).toList == [102, 97, 114]) = false := by rw [wtest]; decide
  have t4 : ((toB goW).toList == [103, 111]) = true := by rw [wtest]; decide
  have t5 : ((toB goW).toList == [115, 97, 109, 101]) = false := by rw [wtest]; decide
  have hcd : Chg Never w w.drew := (Chg.refl Never w).drew
  generalize toB goW = X at k0 t1 t2 t3 t4 t5
  clear hnm
  go_enter Tryz.func22, Tryz.ntmps22
  go_wp2_with fail
  refine wp_region_held_drew (S := fun w' => Chg Never w w' ∧ w'.cell? ⟨b, 0, none⟩ = some (.slice oa m.old.length oc) ∧ w'.cell? ⟨b, 1, none⟩ = some (.slice na m.new.length nc) ∧ w'.cell? ⟨wb, woff + 1, none⟩ = some (.string p)) (by kernel_rfl) ⟨hcd, c0, c1, k1⟩ (fun hH => ?_)
  refine' tk 0 ?_
  refine' tk 1 ?_
  refine' tk 2 ?_
  refine' tk 3 ?_
  refine' tk 4 ?_
  refine' tk 5 ?_
  refine' tk 6 ?_
  refine' tk 7 ?_
  refine' tk 8 ?_
  refine' tk 9 ?_
  refine' tk 10 ?_
  refine' tk 11 ?_
  refine' tk 12 ?_
  refine wpAnyH_ready (rs := [13]) (by kernel_rfl) (by simp) ?_
  refine AllReadyH.cons rfl (fun K hK => ?_) AllReadyH.nil
  go_simp
  go_at_call 42
  refine (rnumber_any p hp _ mx (hg.never hcd)).mono ?_
  rintro e w1 hp1
  obtain ⟨rfl, hc1⟩ := numRP_none HN.out hp1
  have hw1 := hcd.trans hc1
  clear hp1
  exact ⟨rfl, hw1.mono (fun _ _ h => h.elim), ⟨_, _, hb.keep hw1 (fun x => x), ho.never hw1, hn.never hw1⟩, rfl⟩
set_option maxHeartbeats 4000000 in
set_option maxRecDepth 100000 in
theorem act_go_big (b : Nat) (O : Nat → Prop) (m : Ses) (p : ByteArray) (ws : Value) (w : World) (vo vn : Value) (mx : Int) (h : ActIn b O m w vo vn mx) (hws : Rdv w Never ws [toB goW, p]) (hp : p.size ≤ 1000000000) (n : Nat) (hnm : numM 4 p.data.toList = some n) (hn1 : ¬ n ≤ 1000) :
    Calls Tryz.prog 22 #[.pointer (some ⟨b, 0, none⟩), ws] w (ActPost b O (m, toldS [] 1) false w) := by
  have hn9 := numM4_lt hnm
  have HN := Lib.hid hnm
  obtain ⟨c0, c1⟩ := h.box.cell
  have hb := h.box
  have ho := h.old
  have hn := h.new
  have hOb := h.ob
  have hOl := h.lt
  have hok := h.ok
  have hb9 := h.b9
  have hg := h.gl
  have he := h.er
  have hon : Rdv w Never vo m.old := ho.sub (fun _ _ h => h.elim)
  have hnn : Rdv w Never vn m.new := hn.sub (fun _ _ h => h.elim)
  obtain ⟨oa, oc, rfl, _, _, _⟩ := rdv_slice ho
  obtain ⟨na, nc, rfl, _, _, _⟩ := rdv_slice hn
  clear h
  obtain ⟨wa, wc, rfl, wz1, wz2, wz3⟩ := rdv_slice hws
  obtain ⟨wb, woff, rfl, _, _, k0, _⟩ := elems_str wz3 (i := 0) rfl
  obtain ⟨wb', woff', hwe, _, _, k1, hps⟩ := elems_str wz3 (i := 1) rfl
  injection hwe with hwe
  injection hwe with hwe1 hwe2 _
  subst hwe1 hwe2
  clear wz3 hws
  simp only [List.length_cons, List.length_nil, Nat.add_zero, Nat.zero_add, Nat.reduceAdd] at k0 k1 wz1 ⊢
  have t1 : ((toB goW).toList == [100, 114, 111, 112]) = false := by rw [wtest]; decide
  have t2 : ((toB goW).toList == [100, 105, 102, 102]) = false := by rw [wtest]; decide
  have t3 : ((toB goW).toList == [102, 97, 114]) = false := by rw [wtest]; decide
  have t4 : ((toB goW).toList == [103, 111]) = true := by rw [wtest]; decide
  have t5 : ((toB goW).toList == [115, 97, 109, 101]) = false := by rw [wtest]; decide
  have HD : Hid (diffFault m.old m.new (n : Int) = 1) := diffFault_n (tree_iff.1 hok.1) (tree_iff.1 hok.2) (Or.inr (by omega))
  have hI : I64 (n : Int) := ⟨by omega, by omega⟩
  have hcd : Chg Never w w.drew := (Chg.refl Never w).drew
  generalize toB goW = X at k0 t1 t2 t3 t4 t5
  clear hnm
  go_enter Tryz.func22, Tryz.ntmps22
  go_wp2_with fail
  refine wp_region_held_drew (S := fun w' => Chg Never w w' ∧ w'.cell? ⟨b, 0, none⟩ = some (.slice oa m.old.length oc) ∧ w'.cell? ⟨b, 1, none⟩ = some (.slice na m.new.length nc) ∧ w'.cell? ⟨wb, woff + 1, none⟩ = some (.string p)) (by kernel_rfl) ⟨hcd, c0, c1, k1⟩ (fun hH => ?_)
  refine' tk 0 ?_
  refine' tk 1 ?_
  refine' tk 2 ?_
  refine' tk 3 ?_
  refine' tk 4 ?_
  refine' tk 5 ?_
  refine' tk 6 ?_
  refine' tk 7 ?_
  refine' tk 8 ?_
  refine' tk 9 ?_
  refine' tk 10 ?_
  refine' tk 11 ?_
  refine' tk 12 ?_
  refine wpAnyH_ready (rs := [13]) (by kernel_rfl) (by simp) ?_
  refine AllReadyH.cons rfl (fun K hK => ?_) AllReadyH.nil
  go_simp
  (go_at_call 42; refine (rnumber_any p hp _ mx (hg.never hcd)).mono ?_; rintro e w1 hp1; obtain ⟨rfl, hc1⟩ := numRP_some HN.out hp1; have hw1 := hcd.trans hc1; clear hp1; have hS2 : Chg Never w w1 ∧ w1.cell? ⟨b, 0, none⟩ = some (.slice oa m.old.length oc) ∧ w1.cell? ⟨b, 1, none⟩ = some (.slice na m.new.length nc) ∧ w1.cell? ⟨wb, woff + 1, none⟩ = some (.string p) := ⟨hw1, hw1.cellNever c0, hw1.cellNever c1, hw1.cellNever k1⟩; clear hH)
  try go_wp2_with fail
  refine hK.out _ _ ?_ (fun hH => ?_)
  · assumption
  clear hK K
  try simp only [Act.put, List.setIfInBounds_toArray, List.set_cons_zero, List.set_cons_succ]
  clear hS2
  refine wpAnyH_ready (rs := [14]) (by kernel_rfl) (by simp) ?_
  refine AllReadyH.cons rfl (fun K hK => ?_) AllReadyH.nil
  go_simp
  (go_at_call 45; refine (diff_old m.old m.new n _ _ _ (hon.never hw1) (hnn.never hw1) hI mx (hw1.cellNever hg.ml)).mono ?_; rintro e w2 ⟨r2, rfl, hc2, hr2⟩; rw [HD.out, errV_pos (by decide)]; obtain ⟨ra, rc, rfl, _, _, _⟩ := rdv_slice hr2; have hw2 := hw1.trans hc2; have hS2 : Chg Never w w2 ∧ w2.cell? ⟨b, 0, none⟩ = some (.slice oa m.old.length oc) ∧ w2.cell? ⟨b, 1, none⟩ = some (.slice na m.new.length nc) ∧ w2.cell? ⟨wb, woff + 1, none⟩ = some (.string p) := ⟨hw2, hw2.cellNever c0, hw2.cellNever c1, hw2.cellNever k1⟩; clear hH hr2)
  try go_wp2_with fail
  refine hK.out _ _ ?_ (fun hH => ?_)
  · assumption
  clear hK K
  try simp only [Act.put, List.setIfInBounds_toArray, List.set_cons_zero, List.set_cons_succ]
  refine' tk 15 ?_
  refine' tk 16 ?_
  refine' tk 17 ?_
  refine' tk 18 ?_
  refine' tk 19 ?_
  refine wpAnyH_done (by kernel_rfl) ?_ _
  have hi := rtold_any [] (by simp) 1 _ (hw2.cellNever he)
  rw [errV_pos (by decide)] at hi
  go_wp2_with fail
  refine hi.mono ?_
  rintro e w3 ⟨rfl, hc3⟩
  have hw3 := hw2.trans hc3
  go_wp2_with fail
  go_ret
  exact ⟨hw3.mono (fun _ _ h => h.elim), ⟨_, _, hb.keep hw3 (fun x => x), ho.never hw3, hn.never hw3⟩, rfl⟩
set_option maxHeartbeats 4000000 in
set_option maxRecDepth 100000 in
theorem act_go_ok (b : Nat) (O : Nat → Prop) (m : Ses) (p : ByteArray) (ws : Value) (w : World) (vo vn : Value) (mx : Int) (h : ActIn b O m w vo vn mx) (hws : Rdv w Never ws [toB goW, p]) (hp : p.size ≤ 1000000000) (n : Nat) (hnm : numM 4 p.data.toList = some n) (hn1 : n ≤ 1000) :
    Calls Tryz.prog 22 #[.pointer (some ⟨b, 0, none⟩), ws] w (ActPost b O (⟨m.new, m.new⟩, okL) false w) := by
  have hn9 := numM4_lt hnm
  have HN := Lib.hid hnm
  obtain ⟨c0, c1⟩ := h.box.cell
  have hb := h.box
  have ho := h.old
  have hn := h.new
  have hOb := h.ob
  have hOl := h.lt
  have hok := h.ok
  have hb9 := h.b9
  have hg := h.gl
  have he := h.er
  have hon : Rdv w Never vo m.old := ho.sub (fun _ _ h => h.elim)
  have hnn : Rdv w Never vn m.new := hn.sub (fun _ _ h => h.elim)
  obtain ⟨oa, oc, rfl, _, _, _⟩ := rdv_slice ho
  obtain ⟨na, nc, rfl, _, _, _⟩ := rdv_slice hn
  clear h
  obtain ⟨wa, wc, rfl, wz1, wz2, wz3⟩ := rdv_slice hws
  obtain ⟨wb, woff, rfl, _, _, k0, _⟩ := elems_str wz3 (i := 0) rfl
  obtain ⟨wb', woff', hwe, _, _, k1, hps⟩ := elems_str wz3 (i := 1) rfl
  injection hwe with hwe
  injection hwe with hwe1 hwe2 _
  subst hwe1 hwe2
  clear wz3 hws
  simp only [List.length_cons, List.length_nil, Nat.add_zero, Nat.zero_add, Nat.reduceAdd] at k0 k1 wz1 ⊢
  have t1 : ((toB goW).toList == [100, 114, 111, 112]) = false := by rw [wtest]; decide
  have t2 : ((toB goW).toList == [100, 105, 102, 102]) = false := by rw [wtest]; decide
  have t3 : ((toB goW).toList == [102, 97, 114]) = false := by rw [wtest]; decide
  have t4 : ((toB goW).toList == [103, 111]) = true := by rw [wtest]; decide
  have t5 : ((toB goW).toList == [115, 97, 109, 101]) = false := by rw [wtest]; decide
  have HD : Hid (diffFault m.old m.new (n : Int) = 0) := diffFault_0 (tree_iff.1 hok.1) (tree_iff.1 hok.2) (by omega) (by omega)
  have HDR : Hid (diffR m.old m.new (n : Int) = diffL n m.old m.new) := diffR_ok HD.out
  have HA : Hid (applyR m.old (diffL n m.old m.new) = (m.new, 0, 0)) := (diff_makes hok.1 hok.2 (n := (n : Int)) (by omega) (by omega)).1
  have hI : I64 (n : Int) := ⟨by omega, by omega⟩
  have hcd : Chg Never w w.drew := (Chg.refl Never w).drew
  generalize toB goW = X at k0 t1 t2 t3 t4 t5
  clear hnm
  go_enter Tryz.func22, Tryz.ntmps22
  go_wp2_with fail
  refine wp_region_held_drew (S := fun w' => Chg Never w w' ∧ w'.cell? ⟨b, 0, none⟩ = some (.slice oa m.old.length oc) ∧ w'.cell? ⟨b, 1, none⟩ = some (.slice na m.new.length nc) ∧ w'.cell? ⟨wb, woff + 1, none⟩ = some (.string p)) (by kernel_rfl) ⟨hcd, c0, c1, k1⟩ (fun hH => ?_)
  refine' tk 0 ?_
  refine' tk 1 ?_
  refine' tk 2 ?_
  refine' tk 3 ?_
  refine' tk 4 ?_
  refine' tk 5 ?_
  refine' tk 6 ?_
  refine' tk 7 ?_
  refine' tk 8 ?_
  refine' tk 9 ?_
  refine' tk 10 ?_
  refine' tk 11 ?_
  refine' tk 12 ?_
  refine wpAnyH_ready (rs := [13]) (by kernel_rfl) (by simp) ?_
  refine AllReadyH.cons rfl (fun K hK => ?_) AllReadyH.nil
  go_simp
  (go_at_call 42; refine (rnumber_any p hp _ mx (hg.never hcd)).mono ?_; rintro e w1 hp1; obtain ⟨rfl, hc1⟩ := numRP_some HN.out hp1; have hw1 := hcd.trans hc1; clear hp1; have hS2 : Chg Never w w1 ∧ w1.cell? ⟨b, 0, none⟩ = some (.slice oa m.old.length oc) ∧ w1.cell? ⟨b, 1, none⟩ = some (.slice na m.new.length nc) ∧ w1.cell? ⟨wb, woff + 1, none⟩ = some (.string p) := ⟨hw1, hw1.cellNever c0, hw1.cellNever c1, hw1.cellNever k1⟩; clear hH)
  try go_wp2_with fail
  refine hK.out _ _ ?_ (fun hH => ?_)
  · assumption
  clear hK K
  try simp only [Act.put, List.setIfInBounds_toArray, List.set_cons_zero, List.set_cons_succ]
  clear hS2
  refine wpAnyH_ready (rs := [14]) (by kernel_rfl) (by simp) ?_
  refine AllReadyH.cons rfl (fun K hK => ?_) AllReadyH.nil
  go_simp
  (go_at_call 45; refine (diff_old m.old m.new n _ _ _ (hon.never hw1) (hnn.never hw1) hI mx (hw1.cellNever hg.ml)).mono ?_; rintro e w2 ⟨r2, rfl, hc2, hr2⟩; rw [HD.out, errV_zero]; rw [HDR.out] at hr2; have hr2 := hr2.sub (O' := Never) (fun _ _ h => h.elim); obtain ⟨ra, rc, rfl, _, _, _⟩ := rdv_slice hr2; have hw2 := hw1.trans hc2; have hS2 : Chg Never w w2 ∧ w2.cell? ⟨b, 0, none⟩ = some (.slice oa m.old.length oc) ∧ w2.cell? ⟨b, 1, none⟩ = some (.slice na m.new.length nc) ∧ w2.cell? ⟨wb, woff + 1, none⟩ = some (.string p) := ⟨hw2, hw2.cellNever c0, hw2.cellNever c1, hw2.cellNever k1⟩; clear hH)
  try go_wp2_with fail
  refine hK.out _ _ ?_ (fun hH => ?_)
  · assumption
  clear hK K
  try simp only [Act.put, List.setIfInBounds_toArray, List.set_cons_zero, List.set_cons_succ]
  refine' tk 15 ?_
  refine' tk 16 ?_
  refine' tk 17 ?_
  refine' tk 18 ?_
  refine' tk 19 ?_
  refine wpAnyH_done (by kernel_rfl) ?_ _
  have q0 := hw2.cellNever c0
  generalize diffL (n : Int) m.old m.new = P at hr2 HA
  clear hS2 HDR
  go_wp2_with fail
  refine (apply_any m.old P _ _ _ (hon.never hw2) hr2 mx (hw2.cellNever hg.ml)).mono ?_
  rintro e w3 ⟨r3, rfl, hc3, hr3⟩
  rw [HA.out] at hr3 ⊢
  rw [errV_zero]
  have hw3 := hw2.trans hc3
  have hr := hr3.sub (O' := O) (fun k _ hk => Nat.lt_of_lt_of_le (hOl k hk) hw2.size)
  have hb3 := hb.keep hw3 (fun x => x)
  have hn3 := hn.never hw3
  have q3 := hw3.cellNever c0
  have f3 := hb3.free 0
  obtain ⟨sa, sc, rfl, _, _, _⟩ := rdv_slice hr3
  have hcs : Chg (fun k => k = b) w (w3.setCell ⟨b, 0, none⟩ (.slice sa m.new.length sc)) := Chg.setCell (O := fun k => k = b) (hw3.mono (fun _ _ h => h.elim)) (p := ⟨b, 0, none⟩) (.inr rfl) _
  have he4 := hcs.cell he (by show ¬ 1 = b; omega)
  have hses := ses_set0 hb3 hr hn3 hOb
  clear hr3 hr2 q0
  go_wp2_with fail
  refine (rtold_any okW (by decide) 0 _ he4).mono ?_
  rintro e w5 ⟨rfl, hc5⟩
  go_wp2_with fail
  go_ret
  exact ⟨hcs.trans (hc5.mono (fun _ _ h => h.elim)), hses.never hc5, rfl⟩
end Go.Proofs.YtmjpfoeaobdaeaaGreatDoor
namespace Go.Proofs.YtmjpfoeaobdaeaaGreatDoor
open Go.RowKit

set_option maxHeartbeats 4000000 in
set_option maxRecDepth 100000 in
theorem act_far (b : Nat) (O : Nat → Prop) (m : Ses) (p : ByteArray) (ws : Value) (w : World) (vo vn : Value) (mx : Int) (h : ActIn b O m w vo vn mx) (hws : Rdv w Never ws [toB farW, p]) :
    Calls Tryz.prog 22 #[.pointer (some ⟨b, 0, none⟩), ws] w (ActPost b O (m, farS m p) false w) := by
  obtain ⟨c0, c1⟩ := h.box.cell
  have hb := h.box
  have ho := h.old
  have hn := h.new
  have hOb := h.ob
  have hOl := h.lt
  have hok := h.ok
  have hb9 := h.b9
  have hg := h.gl
  have he := h.er
  have hon : Rdv w Never vo m.old := ho.sub (fun _ _ h => h.elim)
  have hnn : Rdv w Never vn m.new := hn.sub (fun _ _ h => h.elim)
  obtain ⟨oa, oc, rfl, _, _, _⟩ := rdv_slice ho
  obtain ⟨na, nc, rfl, _, _, _⟩ := rdv_slice hn
  clear h
  obtain ⟨wa, wc, rfl, wz1, wz2, wz3⟩ := rdv_slice hws
  obtain ⟨wb, woff, rfl, _, _, k0, _⟩ := elems_str wz3 (i := 0) rfl
  obtain ⟨wb', woff', hwe, _, _, k1, hps⟩ := elems_str wz3 (i := 1) rfl
  injection hwe with hwe
  injection hwe with hwe1 hwe2 _
  subst hwe1 hwe2
  clear wz3 hws
  simp only [List.length_cons, List.length_nil, Nat.add_zero, Nat.zero_add, Nat.reduceAdd] at k0 k1 wz1 ⊢
  have t1 : ((toB farW).toList == [100, 114, 111, 112]) = false := by rw [wtest]; decide
  have t2 : ((toB farW).toList == [100, 105, 102, 102]) = false := by rw [wtest]; decide
  have t3 : ((toB farW).toList == [102, 97, 114]) = true := by rw [wtest]; decide
  have t4 : ((toB farW).toList == [103, 111]) = false := by rw [wtest]; decide
  have t5 : ((toB farW).toList == [115, 97, 109, 101]) = false := by rw [wtest]; decide
  have hcd : Chg Never w w.drew := (Chg.refl Never w).drew
  have hod := hon.never hcd
  generalize toB farW = X at k0 t1 t2 t3 t4 t5
  have HLO : Hid (linesF m.old p = pathFault p) := linesF_tree hok.1 p
  have HLN : Hid (linesF m.new p = pathFault p) := linesF_tree hok.2 p
  go_enter Tryz.func22, Tryz.ntmps22
  go_wp2_with fail
  refine wp_region_held_drew (S := fun w' => Chg Never w w' ∧ w'.cell? ⟨b, 0, none⟩ = some (.slice oa m.old.length oc) ∧ w'.cell? ⟨wb, woff + 1, none⟩ = some (.string p)) (by kernel_rfl) ⟨hcd, c0, k1⟩ (fun hH => ?_)
  refine' tk 0 ?_
  refine' tk 1 ?_
  refine' tk 2 ?_
  refine' tk 3 ?_
  refine' tk 4 ?_
  refine' tk 5 ?_
  refine' tk 6 ?_
  refine' tk 7 ?_
  refine wpAnyH_ready (rs := [8]) (by kernel_rfl) (by simp) ?_
  refine AllReadyH.cons rfl (fun K hK => ?_) AllReadyH.nil
  go_simp
  (go_at_call 37; refine (rlines_any m.old p _ _ hod mx hg.ml).mono ?_; rintro e w1 ⟨r1, rfl, hc1, hown1⟩; have hw1 := hcd.trans hc1; have hS2 : Chg Never w w1 ∧ w1.cell? ⟨b, 0, none⟩ = some (.slice oa m.old.length oc) ∧ w1.cell? ⟨wb, woff + 1, none⟩ = some (.string p) := ⟨hw1, hw1.cellNever c0, hw1.cellNever k1⟩; have hr1 := hown1.rdv.sub (O' := Never) (fun _ _ h => h.elim); obtain ⟨ra, rn, rc, rfl⟩ := own_isSlice hown1; clear hH hown1)
  try go_wp2_with fail
  refine hK.out _ _ ?_ (fun hH => ?_)
  · assumption
  clear hK K
  try simp only [Act.put, List.setIfInBounds_toArray, List.set_cons_zero, List.set_cons_succ]
  refine' tk 9 ?_
  refine' tk 10 ?_
  refine' tk 11 ?_
  refine' tk 12 ?_
  refine' tk 13 ?_
  refine wpAnyH_done (by kernel_rfl) ?_ _
  clear hS2 hod
  rw [HLO.out]
  by_cases z : pathFault p = 0
  · have HRO : Hid (getR m.old p = linesIn m.old p) := getR_in hok.1 z
    have HRN : Hid (getR m.new p = linesIn m.new p) := getR_in hok.2 z
    have HR : Hid (farS m p = toldS (Lib.itoa (far (linesIn m.old p) (linesIn m.new p))) 0) := by unfold Hid farS; rw [if_pos z, told_zero]
    have hfo := linesIn_fine hok.1 p
    have hfn := linesIn_fine hok.2 p
    have hfar := farIn_le hok p
    have HZ := Lib.hid z
    rw [HRO.out] at hr1
    rw [z, errV_zero]
    have hn1 := hnn.never (hw1.drew)
    have q1 := hw1.cellNever c1
    have q2 := hw1.cellNever k1
    clear z hon hnn
    go_wp2_with fail
    refine wp_region_held_drew (S := fun w' => Chg Never w w' ∧ w'.cell? ⟨b, 1, none⟩ = some (.slice na m.new.length nc) ∧ w'.cell? ⟨wb, woff + 1, none⟩ = some (.string p)) (by kernel_rfl) ⟨hw1.drew, q1, q2⟩ (fun hH => ?_)
    refine' tk 0 ?_
    refine' tk 1 ?_
    refine' tk 2 ?_
    refine' tk 3 ?_
    refine' tk 4 ?_
    refine' tk 5 ?_
    refine' tk 6 ?_
    refine' tk 7 ?_
    refine wpAnyH_ready (rs := [8]) (by kernel_rfl) (by simp) ?_
    refine AllReadyH.cons rfl (fun K hK => ?_) AllReadyH.nil
    go_simp
    (go_at_call 37; refine (rlines_any m.new p _ _ hn1 mx (hw1.drew.cellNever hg.ml)).mono ?_; rintro e w2 ⟨r2, rfl, hc2, hown2⟩; have hw2 := hw1.drew.trans hc2; have hr1b := (hr1.never ((Chg.refl Never w1).drew)).never hc2; have hS2 : Chg Never w w2 ∧ w2.cell? ⟨b, 1, none⟩ = some (.slice na m.new.length nc) ∧ w2.cell? ⟨wb, woff + 1, none⟩ = some (.string p) := ⟨hw2, hw2.cellNever c1, hw2.cellNever k1⟩; have hr2 := hown2.rdv.sub (O' := Never) (fun _ _ h => h.elim); obtain ⟨rb, rm, rd, rfl⟩ := own_isSlice hown2; clear hH hown2)
    try go_wp2_with fail
    refine hK.out _ _ ?_ (fun hH => ?_)
    · assumption
    clear hK K
    try simp only [Act.put, List.setIfInBounds_toArray, List.set_cons_zero, List.set_cons_succ]
    refine' tk 9 ?_
    refine' tk 10 ?_
    refine' tk 11 ?_
    refine' tk 12 ?_
    refine' tk 13 ?_
    refine wpAnyH_done (by kernel_rfl) ?_ _
    rw [HLN.out, HZ.out, errV_zero]
    rw [HRN.out] at hr2
    clear hS2 hn1 hr1
    have HFV : Hid (farV (linesIn m.old p) (linesIn m.new p) = .tuple #[.int .i64 (far (linesIn m.old p) (linesIn m.new p) : Int), .nilIface]) := by
      unfold Hid farV
      rw [checked_zero hfo hfn]; rfl
    go_wp2_with fail
    refine (far_any (linesIn m.old p) (linesIn m.new p) _ _ _ hr1b hr2).mono ?_
    rintro e w3 ⟨rfl, hc3⟩
    rw [HFV.out]
    have hw3 := hw2.trans hc3
    have hFL := (digits_len (far (linesIn m.old p) (linesIn m.new p)) 2 (by omega)).1
    rw [← itoa_nat] at hFL
    generalize far (linesIn m.old p) (linesIn m.new p) = F at HR hfar hFL
    clear hr1b hr2 hc3 HFV
    go_wp2_with fail
    refine (Tryz.strconv_Itoa (F : Int) (by omega) (by omega) _ (hg.never hw3).tab).mono ?_
    rintro e w4 ⟨rfl, k, os, rfl⟩
    have hw4 := hw3.trans (chg_grow w3 k os)
    have hi := rtold_any (Lib.itoa (F : Int)) (by omega) 0 _ (hw4.cellNever he)
    rw [errV_zero] at hi
    go_wp2_with fail
    refine hi.mono ?_
    rintro e w5 ⟨rfl, hc5⟩
    have hw5 := hw4.trans hc5
    go_wp2_with fail
    go_ret
    exact ⟨hw5.mono (fun _ _ h => h.elim), ⟨_, _, hb.keep hw5 (fun x => x), ho.never hw5, hn.never hw5⟩, by rw [HR.out]; rfl⟩
  · have HR : Hid (farS m p = toldS [] (pathFault p)) := if_neg z
    have hi := rtold_any [] (by simp) (pathFault p) _ (hw1.cellNever he)
    obtain ⟨E, hE⟩ : ∃ E, errV (pathFault p) = E := ⟨_, rfl⟩
    rw [hE] at hi ⊢
    obtain ⟨T, P, rfl⟩ : ∃ T P, E = .iface T P := ⟨_, _, by rw [← hE, errV_pos z]⟩
    clear z hE hr1
    go_wp2_with fail
    refine hi.mono ?_
    rintro e w5 ⟨rfl, hc5⟩
    have hw5 := hw1.trans hc5
    go_wp2_with fail
    go_ret
    exact ⟨hw5.mono (fun _ _ h => h.elim), ⟨_, _, hb.keep hw5 (fun x => x), ho.never hw5, hn.never hw5⟩, by rw [HR.out]; rfl⟩
end Go.Proofs.YtmjpfoeaobdaeaaGreatDoor
namespace Go.Proofs.YtmjpfoeaobdaeaaGreatDoor
open Go.RowKit

set_option maxHeartbeats 4000000 in
set_option maxRecDepth 100000 in
theorem act_same (b : Nat) (O : Nat → Prop) (m : Ses) (ws : Value) (w : World) (vo vn : Value) (mx : Int) (h : ActIn b O m w vo vn mx) (hws : Rdv w Never ws [toB sameW]) :
    Calls Tryz.prog 22 #[.pointer (some ⟨b, 0, none⟩), ws] w (ActPost b O (m, sameS m) false w) := by
  obtain ⟨c0, c1⟩ := h.box.cell
  have hb := h.box
  have ho := h.old
  have hn := h.new
  have hOb := h.ob
  have hOl := h.lt
  have hok := h.ok
  have hb9 := h.b9
  have hg := h.gl
  have he := h.er
  have hon : Rdv w Never vo m.old := ho.sub (fun _ _ h => h.elim)
  have hnn : Rdv w Never vn m.new := hn.sub (fun _ _ h => h.elim)
  obtain ⟨oa, oc, rfl, _, _, _⟩ := rdv_slice ho
  obtain ⟨na, nc, rfl, _, _, _⟩ := rdv_slice hn
  clear h
  obtain ⟨wa, wc, rfl, wz1, wz2, wz3⟩ := rdv_slice hws
  obtain ⟨wb, woff, rfl, _, _, k0, _⟩ := elems_str wz3 (i := 0) rfl
  clear wz3 hws
  simp only [List.length_cons, List.length_nil, Nat.add_zero, Nat.zero_add, Nat.reduceAdd] at k0 wz1 ⊢
  have t1 : ((toB sameW).toList == [100, 114, 111, 112]) = false := by rw [wtest]; decide
  have t2 : ((toB sameW).toList == [100, 105, 102, 102]) = false := by rw [wtest]; decide
  have t3 : ((toB sameW).toList == [102, 97, 114]) = false := by rw [wtest]; decide
  have t4 : ((toB sameW).toList == [103, 111]) = false := by rw [wtest]; decide
  have t5 : ((toB sameW).toList == [115, 97, 109, 101]) = true := by rw [wtest]; decide
  have hcd : Chg Never w w.drew := (Chg.refl Never w).drew
  have hod := hon.never hcd
  have hnd := hnn.never hcd
  generalize toB sameW = X at k0 t1 t2 t3 t4 t5
  go_enter Tryz.func22, Tryz.ntmps22
  go_wp2_with fail
  refine wp_region_held_drew (S := fun w' => Chg Never w w' ∧ w'.cell? ⟨b, 0, none⟩ = some (.slice oa m.old.length oc) ∧ w'.cell? ⟨b, 1, none⟩ = some (.slice na m.new.length nc)) (by kernel_rfl) ⟨hcd, c0, c1⟩ (fun hH => ?_)
  refine' tk 0 ?_
  refine' tk 1 ?_
  refine' tk 2 ?_
  refine' tk 3 ?_
  refine' tk 4 ?_
  refine' tk 5 ?_
  refine' tk 6 ?_
  refine' tk 7 ?_
  refine' tk 8 ?_
  refine' tk 9 ?_
  refine' tk 10 ?_
  refine wpAnyH_ready (rs := [11]) (by kernel_rfl) (by simp) ?_
  refine AllReadyH.cons rfl (fun K hK => ?_) AllReadyH.nil
  go_simp
  (go_at_call 49; refine (eqfunc_any m.old m.new _ _ _ hod hnd).mono ?_; rintro e w1 ⟨rfl, hc1⟩; have hw1 := hcd.trans hc1; have hS2 : Chg Never w w1 ∧ w1.cell? ⟨b, 0, none⟩ = some (.slice oa m.old.length oc) ∧ w1.cell? ⟨b, 1, none⟩ = some (.slice na m.new.length nc) := ⟨hw1, hw1.cellNever c0, hw1.cellNever c1⟩; clear hH)
  try go_wp2_with fail
  refine hK.out _ _ ?_ (fun hH => ?_)
  · assumption
  clear hK K
  try simp only [Act.put, List.setIfInBounds_toArray, List.set_cons_zero, List.set_cons_succ]
  refine wpAnyH_done (by kernel_rfl) ?_ _
  have hs1 : SesAt O w1 b m := ⟨_, _, hb.keep hw1 (fun x => x), ho.never hw1, hn.never hw1⟩
  by_cases z : m.old = m.new
  · have HR : Hid (sameS m = yesL) := if_pos z
    rw [decide_eq_true z]
    clear z hS2 hod hnd hon hnn ho hn
    go_wp2_with fail
    go_ret
    exact ⟨hw1.mono (fun _ _ h => h.elim), hs1, by rw [HR.out]; rfl⟩
  · have HR : Hid (sameS m = noL) := if_neg z
    rw [decide_eq_false z]
    clear z hS2 hod hnd hon hnn ho hn
    go_wp2_with fail
    go_ret
    exact ⟨hw1.mono (fun _ _ h => h.elim), hs1, by rw [HR.out]; rfl⟩
set_option maxHeartbeats 4000000 in
set_option maxRecDepth 100000 in
theorem act_back (b : Nat) (O : Nat → Prop) (m : Ses) (ws : Value) (w : World) (vo vn : Value) (mx : Int) (h : ActIn b O m w vo vn mx) (hws : Rdv w Never ws [toB backW]) :
    Calls Tryz.prog 22 #[.pointer (some ⟨b, 0, none⟩), ws] w (ActPost b O (⟨m.new, m.old⟩, okL) false w) := by
  obtain ⟨c0, c1⟩ := h.box.cell
  have hb := h.box
  have ho := h.old
  have hn := h.new
  have hOb := h.ob
  have hOl := h.lt
  have hok := h.ok
  have hb9 := h.b9
  have hg := h.gl
  have he := h.er
  have hon : Rdv w Never vo m.old := ho.sub (fun _ _ h => h.elim)
  have hnn : Rdv w Never vn m.new := hn.sub (fun _ _ h => h.elim)
  obtain ⟨oa, oc, rfl, _, _, _⟩ := rdv_slice ho
  obtain ⟨na, nc, rfl, _, _, _⟩ := rdv_slice hn
  clear h
  obtain ⟨wa, wc, rfl, wz1, wz2, wz3⟩ := rdv_slice hws
  obtain ⟨wb, woff, rfl, _, _, k0, _⟩ := elems_str wz3 (i := 0) rfl
  clear wz3 hws
  simp only [List.length_cons, List.length_nil, Nat.add_zero, Nat.zero_add, Nat.reduceAdd] at k0 wz1 ⊢
  have t1 : ((toB backW).toList == [100, 114, 111, 112]) = false := by rw [wtest]; decide
  have t2 : ((toB backW).toList == [100, 105, 102, 102]) = false := by rw [wtest]; decide
  have t3 : ((toB backW).toList == [102, 97, 114]) = false := by rw [wtest]; decide
  have t4 : ((toB backW).toList == [103, 111]) = false := by rw [wtest]; decide
  have t5 : ((toB backW).toList == [115, 97, 109, 101]) = false := by rw [wtest]; decide
  generalize toB backW = X at k0 t1 t2 t3 t4 t5
  have f0 := hb.free 0
  have f1 := hb.free 1
  have hses : SesAt O ((w.setCell ⟨b, 0, none⟩ (.slice na m.new.length nc)).setCell ⟨b, 1, none⟩ (.slice oa m.old.length oc)) b ⟨m.new, m.old⟩ :=
    ses_set1 (hb.set0 _) (rdv_setO hn hOb 0 _) (rdv_setO ho hOb 0 _) hOb
  have hcs : Chg (fun k => k = b) w ((w.setCell ⟨b, 0, none⟩ (.slice na m.new.length nc)).setCell ⟨b, 1, none⟩ (.slice oa m.old.length oc)) :=
    Chg.setCell (O := fun k => k = b) (Chg.setCell (O := fun k => k = b) (Chg.refl _ w) (p := ⟨b, 0, none⟩) (.inr rfl) _) (p := ⟨b, 1, none⟩) (.inr rfl) _
  clear hon hnn ho hn
  go_enter Tryz.func22, Tryz.ntmps22
  go_wp2_with fail
  go_region
  go_wp2_with fail
  go_ret
  exact ⟨hcs.drew, hses.never ((Chg.refl Never _).drew), rfl⟩
end Go.Proofs.YtmjpfoeaobdaeaaGreatDoor
namespace Go.Proofs.YtmjpfoeaobdaeaaGreatDoor
open Go.RowKit

theorem unread_assert (w : World) (xT : TypeId) : (Instr.typeAssert (.iface 51 (.agg #[])) xT 51 true).run Tryz.prog w = .ok (.tuple #[.agg #[], .bool true]) w := by kernel_rfl
theorem unread_assert_nil (w : World) (xT : TypeId) : (Instr.typeAssert .nilIface xT 51 true).run Tryz.prog w = .ok (.tuple #[.agg #[], .bool false]) w := by kernel_rfl
section
variable {P : Program} {ops : Array Oper} {Q : Exit → Act → List Frame → World → Prop} {a : Act} {cs : List Frame} {w : World}
theorem vS (i : Nat) {rest : List Nat} {o : Oper} {v : Value} {w' : World} {b : Act} (h : wpOpsS P ops Q rest b cs w')
    (hi : ops[i]? = some o := by ((try simp only [List.getElem?_toArray, List.getElem?_cons_succ, List.getElem?_cons_zero]); rfl))
    (hw : Region.wanted o (yielded ops a.tmps) = true := by rfl)
    (hy : (execOp a.eval o).run P w = .ok (.value v) w' := by (go_simp; all_goals (first | with_reducible rfl | exact ⟨rfl, rfl⟩)))
    (hb : a.put o.dst v = b := by ((try simp only [Act.put, List.setIfInBounds_toArray, List.set_cons_zero, List.set_cons_succ]); (try rfl))) : wpOpsS P ops Q (i :: rest) a cs w := by
  subst hb
  simp only [wpOpsS, hi, hw, if_true, hy, Oper.upon]
  exact h
theorem nS (i : Nat) {rest : List Nat} {o : Oper} {w' : World} {b : Act} (h : wpOpsS P ops Q rest b cs w')
    (hi : ops[i]? = some o := by ((try simp only [List.getElem?_toArray, List.getElem?_cons_succ, List.getElem?_cons_zero]); rfl))
    (hw : Region.wanted o (yielded ops a.tmps) = true := by rfl)
    (hy : (execOp a.eval o).run P w = .ok .skip w' := by (go_simp; all_goals (first | with_reducible rfl | exact ⟨rfl, rfl⟩)))
    (hb : a.put o.dst undef = b := by ((try simp only [Act.put, List.setIfInBounds_toArray, List.set_cons_zero, List.set_cons_succ]); (try rfl))) : wpOpsS P ops Q (i :: rest) a cs w := by
  subst hb
  simp only [wpOpsS, hi, hw, if_true, hy, Oper.upon]
  exact h
theorem rS (i : Nat) {rest : List Nat} {o : Oper} {v : Value} {cs' : List Frame} {b : Act} (hc : recoverD cs = some (v, cs')) (h : wpOpsS P ops Q rest b cs' w)
    (hi : ops[i]? = some o := by ((try simp only [List.getElem?_toArray, List.getElem?_cons_succ, List.getElem?_cons_zero]); rfl))
    (hw : Region.wanted o (yielded ops a.tmps) = true := by rfl)
    (hy : (execOp a.eval o).run P w = .ok .recover w := by (go_simp; all_goals (first | with_reducible rfl | exact ⟨rfl, rfl⟩)))
    (hb : a.put o.dst v = b := by ((try simp only [Act.put, List.setIfInBounds_toArray, List.set_cons_zero, List.set_cons_succ]); (try rfl))) : wpOpsS P ops Q (i :: rest) a cs w := by
  subst hb
  simp only [wpOpsS, hi, hw, if_true, hy, hc]
  exact h
theorem rS0 (i : Nat) {rest : List Nat} {o : Oper} {b : Act} (hc : recoverD cs = none) (h : wpOpsS P ops Q rest b cs w)
    (hi : ops[i]? = some o := by ((try simp only [List.getElem?_toArray, List.getElem?_cons_succ, List.getElem?_cons_zero]); rfl))
    (hw : Region.wanted o (yielded ops a.tmps) = true := by rfl)
    (hy : (execOp a.eval o).run P w = .ok .recover w := by (go_simp; all_goals (first | with_reducible rfl | exact ⟨rfl, rfl⟩)))
    (hb : a.put o.dst .nilIface = b := by ((try simp only [Act.put, List.setIfInBounds_toArray, List.set_cons_zero, List.set_cons_succ]); (try rfl))) : wpOpsS P ops Q (i :: rest) a cs w := by
  subst hb
  simp only [wpOpsS, hi, hw, if_true, hy, hc]
  exact h
end
set_option maxHeartbeats 1000000 in
set_option maxRecDepth 100000 in
theorem catch_panicking (p : Addr) (x : Value) (older : List PanicEntry) (w : World) (hc : w.cell? p = some x) (hz : w.frozen? p = false) :
    CallsD Tryz.prog 18 #[.pointer (some p)] (.panicking ({ v := .iface 51 (.agg #[]), recovered := false } :: older)) w fun e u' w' =>
      e = .returned (.tuple #[]) ∧ u' = .panicking ({ v := .iface 51 (.agg #[]), recovered := true } :: older) ∧ w' = (w.alloc (.cells #[] 51)).setCell p (.string (toB badL)) := by
  have h1 := unread_assert
  refine callsD_of_wpS Tryz.func18 rfl fun c₀ cs hu => ?_
  simp only [Tryz.ntmps18, List.size_toArray, List.length_cons, List.length_nil, Nat.reduceAdd, Nat.reduceSub, Array.replicate_succ, Array.replicate_zero, List.push_toArray, List.append_toArray, List.nil_append, List.cons_append]
  apply wpS_seq
  apply wpS_region
  show wpOpsS _ _ _ [0, 1, 2, 3, 4, 5, 6, 7] _ _ _
  have hrc : recoverD (c₀ :: cs) = some (.iface 51 (.agg #[]), { c₀ with mode := .panicking ({ v := .iface 51 (.agg #[]), recovered := true } :: older) } :: cs) := by simp only [recoverD, hu]
  refine' rS 0 hrc ?_
  refine' vS 1 ?_
  refine' vS 2 ?_
  refine' vS 3 ?_
  refine' vS 4 ?_
  refine' vS 5 ?_
  refine' nS 6 ?_
  refine' vS 7 ?_
  show Code.wpS _ _ _ _ _ _
  have hlt := World.block_lt_of_cell? w _ hc
  have hcA : (w.alloc (.cells #[] 51)).cell? p = some x := ((Chg.refl Never w).alloc _).cellNever hc
  have hzA : (w.alloc (.cells #[] 51)).frozen? p = false := (((Chg.refl Never w).alloc _).frozen hlt (fun x => x)).trans hz
  generalize w.alloc (.cells #[] 51) = wA at hcA hzA ⊢
  refine wpS_of_wp ?_
  go_wp2_with fail
  simp [bodyPostS, results, Tryz.results18]
  try rfl
set_option maxHeartbeats 1000000 in
set_option maxRecDepth 100000 in
theorem catch_idle (p : Addr) (w : World) :
    CallsD Tryz.prog 18 #[.pointer (some p)] .returning w fun e u' w' => e = .returned (.tuple #[]) ∧ u' = .returning ∧ w' = w.alloc (.cells #[] 51) := by
  have h1 := unread_assert_nil
  refine callsD_of_wpS Tryz.func18 rfl fun c₀ cs hu => ?_
  simp only [Tryz.ntmps18, List.size_toArray, List.length_cons, List.length_nil, Nat.reduceAdd, Nat.reduceSub, Array.replicate_succ, Array.replicate_zero, List.push_toArray, List.append_toArray, List.nil_append, List.cons_append]
  apply wpS_seq
  apply wpS_region
  show wpOpsS _ _ _ [0, 1, 2, 3, 4, 5, 6, 7] _ _ _
  have hrc : recoverD (c₀ :: cs) = none := by simp only [recoverD, hu]
  refine' rS0 0 hrc ?_
  refine' vS 1 ?_
  refine' vS 2 ?_
  refine' vS 3 ?_
  refine' vS 4 ?_
  refine' vS 5 ?_
  refine' nS 6 ?_
  refine' vS 7 ?_
  show Code.wpS _ _ _ _ _ _
  refine wpS_of_wp ?_
  go_wp2_with fail
  cases c₀
  simp_all [bodyPostS, results, Tryz.results18]
end Go.Proofs.YtmjpfoeaobdaeaaGreatDoor
namespace Go.Proofs.YtmjpfoeaobdaeaaGreatDoor
open Go.RowKit Go.Maps

theorem str_law : Keyed Tryz.prog 9 := string_keyed Tryz.underlying9
theorem keyOf_s {s : ByteArray} (h : s.size ≤ maxLen) : keyOf Tryz.prog 9 (.string s) = some (.string s.data.toList) := by
  have h2 : s.data.toList.length ≤ maxLen := by rw [← Lib.size_eq]; exact h
  simp [keyOf, Tryz.underlying9, mapKey]
  try exact h
theorem zero_intS (w : World) : (zeroValue 3).run Tryz.prog w = .ok (.int .i64 0) w := by kernel_rfl
def StrMap (w : World) (b n : Nat) (F : List UInt8 → Int) : Prop :=
  ∃ D : DataW Unit, w.ownsMap Tryz.prog 9 (plainElem Tryz.prog 3) b n D ∧ IsMap D ∧ ∀ j, D.atKey (.string j) (.lit (.int .i64 0)) = .lit (.int .i64 (F j))
theorem StrMap.lt {w : World} {b n : Nat} {F : List UInt8 → Int} (h : StrMap w b n F) : b < w.heap.size := by
  obtain ⟨D, h1, _⟩ := h
  exact h1.lt
theorem StrMap.keep {w w' : World} {b n : Nat} {F : List UInt8 → Int} {O : Nat → Prop} (h : StrMap w b n F) (hc : Chg O w w') (hb : ¬ O b) : StrMap w' b n F := by
  have hlt := h.lt
  obtain ⟨D, ⟨es, clock, h1, h2⟩, h3⟩ := h
  exact ⟨D, ⟨es, clock, (hc.block b hlt hb).trans h1, h2⟩, h3⟩
theorem StrMap.mono {w : World} {b n n' : Nat} {F : List UInt8 → Int} (h : StrMap w b n F) (hn : n ≤ n') : StrMap w b n' F := by
  obtain ⟨D, h1, h2⟩ := h
  exact ⟨D, h1.mono hn, h2⟩
theorem strMap_made (w : World) : StrMap (w.alloc (.map #[] 0)) w.heap.size 0 fun _ => 0 :=
  ⟨_, World.ownsMap_made w _ _ _, isMap_empty, fun j => by simp [DataW.atKey]⟩
theorem wf_i64S {a : Int} (h : I64 a) : (Lit.int .i64 a).wf = true := by
  unfold I64 at h
  exact WalkArith.wf_i64 (by omega)
theorem StrMap.look {w : World} {b n : Nat} {F : List UInt8 → Int} (h : StrMap w b n F) {j : ByteArray} (hj : j.size ≤ maxLen) : (Instr.lookup 57 (.map (some b)) (.string j) false).run Tryz.prog w = .ok (.int .i64 (F j.data.toList)) w := by
  obtain ⟨D, h1, h2, h3⟩ := h
  obtain ⟨c, hrun, hat, _⟩ := h1.lookup_int str_law Tryz.underlying57 Tryz.underlying3 (zero_intS w) (keyOf_s hj)
  rw [h3 j.data.toList] at hat
  simp only [DataW.lit.injEq, Lit.int.injEq, true_and] at hat
  rw [hat]
  exact hrun
theorem StrMap.put {w : World} {b n : Nat} {F : List UInt8 → Int} (h : StrMap w b n F) (hn : n < maxLen) {j : ByteArray} {c : Int} (hj : j.size ≤ maxLen) (hc : I64 c) :
    ∃ w', (Instr.mapUpdate 57 (.map (some b)) (.string j) (.int .i64 c)).run Tryz.prog w = .ok () w' ∧ StrMap w' b (n + 1) (fun i => if i = j.data.toList then c else F i) ∧ Chg (fun k => k = b) w w' := by
  obtain ⟨D, h1, h2, h3⟩ := h
  obtain ⟨w', hrun, r1, r2⟩ := h1.update str_law Tryz.underlying57 hn (keyOf_s hj) (plainElem_int Tryz.underlying3 (wf_i64S hc))
  refine ⟨w', hrun, ⟨_, r1, h2.put _ _, fun i => ?_⟩, (Chg.of_grown r2).mono (fun k _ hk => (Option.some.inj hk).symm)⟩
  by_cases e : i = j.data.toList
  · subst e
    show _ = DataW.lit (.int .i64 (if j.data.toList = j.data.toList then c else F j.data.toList))
    rw [if_pos rfl]
    exact atKey_put_same h2 (by simp [WideAt.IsKeyLit]) _ _
  · show _ = DataW.lit (.int .i64 (if i = j.data.toList then c else F i))
    rw [if_neg e, atKey_put_other (by simp [e])]
    exact h3 i
end Go.Proofs.YtmjpfoeaobdaeaaGreatDoor
namespace Go.Proofs.YtmjpfoeaobdaeaaGreatDoor
open Go.RowKit

def ActAny (b : Nat) (O : Nat → Prop) (m : Ses) (s : List UInt8) (ws : List (List UInt8)) (w : World) (e : Ending) (w' : World) : Prop :=
  ∃ bad : Bool, ActPost b O (lineW m s ws) bad w e w' ∧ (bad = true → (lineW m s ws).2 = badL)
theorem act_any (b : Nat) (O : Nat → Prop) (m : Ses) (s : List UInt8) (a : List UInt8) (q : List (List UInt8)) (vs : Value) (w : World) (vo vn : Value) (mx : Int) (h : ActIn b O m w vo vn mx) (hws : Rdv w Never vs ((a :: q).map toB)) (hm : manyW a = (a :: q).length) (hsz : ∀ x ∈ q, x.length ≤ 1000000000) :
    Calls Tryz.prog 22 #[.pointer (some ⟨b, 0, none⟩), vs] w (ActAny b O m s (a :: q) w) := by
  rcases many_cases hm with ⟨rfl, rfl⟩ | ⟨rfl, rfl⟩ | ⟨p, rfl, ha⟩
  · refine (act_back b O m vs w vo vn mx h hws).mono fun e w' hh => ⟨false, ?_, fun x => by cases x⟩
    rw [lineW_back]; exact hh
  · refine (act_same b O m vs w vo vn mx h hws).mono fun e w' hh => ⟨false, ?_, fun x => by cases x⟩
    rw [lineW_same]; exact hh
  · have hp : (toB p).size ≤ 1000000000 := by rw [toB_sz]; exact hsz p (List.mem_singleton.2 rfl)
    have hd : (toB p).data.toList = p := toB_data p
    rcases ha with rfl | rfl | rfl | rfl
    · refine (act_drop b O m (toB p) vs w vo vn mx h hws).mono fun e w' hh => ⟨false, ?_, fun x => by cases x⟩
      rw [lineW_drop]; exact hh
    · cases hn : numM 4 p with
      | some n =>
        refine (act_diff_ok b O m (toB p) vs w vo vn mx h hws hp n (by rw [hd]; exact hn)).mono fun e w' hh => ⟨false, ?_, fun x => by cases x⟩
        rw [lineW_diff, hn]; exact hh
      | none =>
        have e1 : lineW m s [diffW, p] = (m, badL) := by rw [lineW_diff, hn]
        refine (act_diff_no b O m (toB p) vs w vo vn mx h hws hp (by rw [hd]; exact hn)).mono fun e w' hh => ⟨true, ?_, fun _ => by rw [e1]⟩
        rw [e1]; exact hh
    · refine (act_far b O m (toB p) vs w vo vn mx h hws).mono fun e w' hh => ⟨false, ?_, fun x => by cases x⟩
      rw [lineW_far]; exact hh
    · cases hn : numM 4 p with
      | some n =>
        by_cases h1 : n ≤ 1000
        · refine (act_go_ok b O m (toB p) vs w vo vn mx h hws hp n (by rw [hd]; exact hn) h1).mono fun e w' hh => ⟨false, ?_, fun x => by cases x⟩
          rw [lineW_go, hn]
          show ActPost b O (goS m n) false w e w'
          rw [goS_ok h.ok n h1]; exact hh
        · refine (act_go_big b O m (toB p) vs w vo vn mx h hws hp n (by rw [hd]; exact hn) h1).mono fun e w' hh => ⟨false, ?_, fun x => by cases x⟩
          rw [lineW_go, hn]
          show ActPost b O (goS m n) false w e w'
          rw [goS, if_neg h1]; exact hh
      | none =>
        have e1 : lineW m s [goW, p] = (m, badL) := by rw [lineW_go, hn]
        refine (act_go_no b O m (toB p) vs w vo vn mx h hws hp (by rw [hd]; exact hn)).mono fun e w' hh => ⟨true, ?_, fun _ => by rw [e1]⟩
        rw [e1]; exact hh

def LinePost (b : Nat) (O : Nat → Prop) (m : Ses) (s : List UInt8) (w : World) (e : Ending) (w' : World) : Prop :=
  Chg (fun k => k = b) w w' ∧ SesAt O w' b (lineS m s).1 ∧ e = .returned (.string (toB (lineS m s).2))
theorem ses_out {O : Nat → Prop} {B b : Nat} {w : World} {m : Ses} (h : SesAt (fun k => O k ∨ k = B) w b m) (hne : b ≠ B) (u : Value) : SesAt (fun k => O k ∨ k = B) (w.setCell ⟨B, 0, none⟩ u) b m := by
  obtain ⟨vo, vn, h1, h2, h3⟩ := h
  exact ⟨vo, vn, h1.keep (Chg.setCell (O := fun k => k = B) (Chg.refl _ w) (p := ⟨B, 0, none⟩) (.inr rfl) u) hne, rdv_setO h2 (.inr rfl) 0 u, rdv_setO h3 (.inr rfl) 0 u⟩
theorem ses_sub {O O' : Nat → Prop} {b : Nat} {w : World} {m : Ses} (h : SesAt O w b m) (hs : ∀ k, O' k → O k) : SesAt O' w b m := by
  obtain ⟨vo, vn, h1, h2, h3⟩ := h
  exact ⟨vo, vn, h1, h2.sub (fun k _ hk => hs k hk), h3.sub (fun k _ hk => hs k hk)⟩
theorem line_end {O : Nat → Prop} {b : Nat} {w w2 w4 : World} {m : Ses} (u : Value) (o : Obj) (hlt : b < w.heap.size) (h1 : Chg Never w w2) (h2 : Chg (fun k => k = b) w2 w4) (h3 : SesAt (fun k => O k ∨ k = w.heap.size) w4 b m) :
    Chg (fun k => k = b) w ((w4.setCell ⟨w.heap.size, 0, none⟩ u).alloc o) ∧ SesAt O ((w4.setCell ⟨w.heap.size, 0, none⟩ u).alloc o) b m := by
  have hc : Chg (fun k => k = b) w w4 := (h1.mono (fun _ _ h => h.elim)).trans h2
  exact ⟨(hc.setCell (p := ⟨w.heap.size, 0, none⟩) (.inl (Nat.le_refl _)) u).alloc o, ses_sub ((ses_out h3 (by omega) u).never ((Chg.refl _ _).alloc o)) (fun _ h => .inl h)⟩
theorem line_end2 {O : Nat → Prop} {b : Nat} {w w2 w4 : World} {m : Ses} (u : Value) (o : Obj) (hlt : b < w.heap.size) (h1 : Chg Never w w2) (h2 : Chg (fun k => k = b) w2 w4) (h3 : SesAt (fun k => O k ∨ k = w.heap.size) w4 b m) :
    Chg (fun k => k = b) w ((w4.alloc o).setCell ⟨w.heap.size, 0, none⟩ u) ∧ SesAt O ((w4.alloc o).setCell ⟨w.heap.size, 0, none⟩ u) b m := by
  have hc : Chg (fun k => k = b) w w4 := (h1.mono (fun _ _ h => h.elim)).trans h2
  exact ⟨(hc.alloc o).setCell (p := ⟨w.heap.size, 0, none⟩) (.inl (Nat.le_refl _)) u, ses_sub (ses_out (h3.never ((Chg.refl _ _).alloc o)) (by omega) u) (fun _ h => .inl h)⟩
theorem ActIn.later {b : Nat} {O O' : Nat → Prop} {m : Ses} {w w' : World} {vo vn : Value} {mx : Int} (h : ActIn b O m w vo vn mx) (hc : Chg Never w w') (h1 : ∀ k, k < w.heap.size → O' k → O k) (h2 : ∀ k, O' k → k < w'.heap.size) (h3 : O' b) : ActIn b O' m w' vo vn mx :=
  ⟨h.box.keep hc (fun x => x), h.old.keep hc (fun _ _ h => h.elim) h1, h.new.keep hc (fun _ _ h => h.elim) h1, h2, h3, h.ok, h.b9, h.gl.never hc, hc.cellNever h.er⟩
theorem more_ses0 {b : Nat} {O : Nat → Prop} {m : Ses} {w w' : World} {vo vn : Value} {mx : Int} {p x : ByteArray} {e : Ending} (h : ActIn b O m w vo vn mx) (hp : MorePost b 0 m.old p x w e w') :
    Chg (fun k => k = b) w w' ∧ SesAt O w' b ⟨moreT m.old p x, m.new⟩ ∧ e = .returned (.string (toB (toldS okW (moreFault m.old p x)))) := by
  obtain ⟨he, hp⟩ := hp
  rcases hp with ⟨z, hc⟩ | ⟨z, w1, r, hc, hr, hc2⟩
  · refine ⟨hc.mono (fun _ _ h => h.elim), ?_, he⟩
    rw [show moreT m.old p x = m.old from if_neg z]
    exact SesAt.never ⟨vo, vn, h.box, h.old, h.new⟩ hc
  · rw [show moreT m.old p x = putAt m.old (moreFile m.old p x) from if_pos z]
    have hs := ses_set0 (h.box.keep hc (fun x => x)) (hr.sub (O' := O) (fun k _ hk => h.lt k hk)) (h.new.never hc) h.ob
    exact ⟨(Chg.setCell (O := fun k => k = b) (hc.mono (fun _ _ h => h.elim)) (p := ⟨b, 0, none⟩) (.inr rfl) r).trans (hc2.mono (fun _ _ h => h.elim)), hs.never hc2, he⟩
theorem more_ses1 {b : Nat} {O : Nat → Prop} {m : Ses} {w w' : World} {vo vn : Value} {mx : Int} {p x : ByteArray} {e : Ending} (h : ActIn b O m w vo vn mx) (hp : MorePost b 1 m.new p x w e w') :
    Chg (fun k => k = b) w w' ∧ SesAt O w' b ⟨m.old, moreT m.new p x⟩ ∧ e = .returned (.string (toB (toldS okW (moreFault m.new p x)))) := by
  obtain ⟨he, hp⟩ := hp
  rcases hp with ⟨z, hc⟩ | ⟨z, w1, r, hc, hr, hc2⟩
  · refine ⟨hc.mono (fun _ _ h => h.elim), ?_, he⟩
    rw [show moreT m.new p x = m.new from if_neg z]
    exact SesAt.never ⟨vo, vn, h.box, h.old, h.new⟩ hc
  · rw [show moreT m.new p x = putAt m.new (moreFile m.new p x) from if_pos z]
    have hs := ses_set1 (h.box.keep hc (fun x => x)) (h.old.never hc) (hr.sub (O' := O) (fun k _ hk => h.lt k hk)) h.ob
    exact ⟨(Chg.setCell (O := fun k => k = b) (hc.mono (fun _ _ h => h.elim)) (p := ⟨b, 1, none⟩) (.inr rfl) r).trans (hc2.mono (fun _ _ h => h.elim)), hs.never hc2, he⟩
set_option maxRecDepth 100000 in
theorem many_map (w : World) : ∃ w1 w2 w3 w4 w5 w6 : World,
    (Instr.mapUpdate 57 (.map (some w.heap.size)) (.string ⟨#[100, 114, 111, 112]⟩) (.int .i64 2)).run Tryz.prog (w.alloc (.map #[] 0)) = .ok () w1 ∧
    (Instr.mapUpdate 57 (.map (some w.heap.size)) (.string ⟨#[100, 105, 102, 102]⟩) (.int .i64 2)).run Tryz.prog w1 = .ok () w2 ∧
    (Instr.mapUpdate 57 (.map (some w.heap.size)) (.string ⟨#[102, 97, 114]⟩) (.int .i64 2)).run Tryz.prog w2 = .ok () w3 ∧
    (Instr.mapUpdate 57 (.map (some w.heap.size)) (.string ⟨#[103, 111]⟩) (.int .i64 2)).run Tryz.prog w3 = .ok () w4 ∧
    (Instr.mapUpdate 57 (.map (some w.heap.size)) (.string ⟨#[115, 97, 109, 101]⟩) (.int .i64 1)).run Tryz.prog w4 = .ok () w5 ∧
    (Instr.mapUpdate 57 (.map (some w.heap.size)) (.string ⟨#[98, 97, 99, 107]⟩) (.int .i64 1)).run Tryz.prog w5 = .ok () w6 ∧
    Chg Never w w6 ∧ ∀ (s : ByteArray), s.size ≤ maxLen → (Instr.lookup 57 (.map (some w.heap.size)) (.string s) false).run Tryz.prog w6 = .ok (.int .i64 (manyW s.data.toList)) w6 := by
  have i1 : I64 1 := by unfold I64; omega
  have i2 : I64 2 := by unfold I64; omega
  have z : ∀ x : ByteArray, x.size ≤ 4 → x.size ≤ maxLen := fun x h => by unfold maxLen; omega
  obtain ⟨w1, r1, m1, c1⟩ := (strMap_made w).put (j := ⟨#[100, 114, 111, 112]⟩) (c := 2) (by decide) (z _ (by decide)) i2
  obtain ⟨w2, r2, m2, c2⟩ := m1.put (j := ⟨#[100, 105, 102, 102]⟩) (c := 2) (by decide) (z _ (by decide)) i2
  obtain ⟨w3, r3, m3, c3⟩ := m2.put (j := ⟨#[102, 97, 114]⟩) (c := 2) (by decide) (z _ (by decide)) i2
  obtain ⟨w4, r4, m4, c4⟩ := m3.put (j := ⟨#[103, 111]⟩) (c := 2) (by decide) (z _ (by decide)) i2
  obtain ⟨w5, r5, m5, c5⟩ := m4.put (j := ⟨#[115, 97, 109, 101]⟩) (c := 1) (by decide) (z _ (by decide)) i1
  obtain ⟨w6, r6, m6, c6⟩ := m5.put (j := ⟨#[98, 97, 99, 107]⟩) (c := 1) (by decide) (z _ (by decide)) i1
  refine ⟨w1, w2, w3, w4, w5, w6, r1, r2, r3, r4, r5, r6, ?_, fun s hs => ?_⟩
  · exact ((Chg.refl Never w).alloc _).trans' (((((c1.trans c2).trans c3).trans c4).trans c5).trans c6) (fun k hk e => by omega)
  · rw [m6.look hs]
    congr 2
    show (if s.data.toList = backW then (1 : Int) else if s.data.toList = sameW then 1 else if s.data.toList = goW then 2 else if s.data.toList = farW then 2 else if s.data.toList = diffW then 2 else if s.data.toList = dropW then 2 else 0) = _
    generalize s.data.toList = a
    unfold manyW
    by_cases g1 : a = backW
    · subst g1; decide
    by_cases g2 : a = sameW
    · subst g2; decide
    by_cases g3 : a = goW
    · subst g3; decide
    by_cases g4 : a = farW
    · subst g4; decide
    by_cases g5 : a = diffW
    · subst g5; decide
    by_cases g6 : a = dropW
    · subst g6; decide
    simp [g1, g2, g3, g4, g5, g6]
end Go.Proofs.YtmjpfoeaobdaeaaGreatDoor
