/-
  THE LAW EditFar, walked.
-/
import Derived.Test.YteaclccoicplgaaEditA
namespace Go.Proofs.Yteaclccoicplgaa
open Go.RowKit

theorem checkedFault_comm (l m : List ByteArray) : checkedFault l m = 0 ↔ checkedFault m l = 0 := by
  rw [checkedFault_zero, checkedFault_zero]; exact And.comm
theorem farV_ok {l m : List ByteArray} (h : checkedFault l m = 0) : farV l m = .tuple #[.int .i64 (far l m), .nilIface] := by
  rw [farV, if_pos h, h, errV_zero]
theorem farV_bad {l m : List ByteArray} (h : checkedFault l m ≠ 0) : farV l m = .tuple #[.int .i64 0, .iface 22 (.int .i64 (checkedFault l m))] := by
  rw [farV, if_neg h, errV_pos h]
theorem farV_xy : farV [⟨#[120]⟩] [⟨#[121]⟩] = .tuple #[.int .i64 2, .nilIface] := by
  have h : checkedFault [⟨#[120]⟩] [⟨#[121]⟩] = 0 := by decide
  have e : far [⟨#[120]⟩] [⟨#[121]⟩] = 2 := by rw [far_cons, if_neg (by decide), far_nil, far_nil']; rfl
  rw [farV_ok h, e]; rfl

/-- a slice literal of one text -/
theorem rdv_lit1 {w : World} {g : Nat} {x : ByteArray} {e : TypeId} (h : w.heap[g]? = some (.cells #[.string x] e (0, 0))) (hx : x.size ≤ maxLen) : Rdv w Never (.slice (some ⟨g, 0, none⟩) 1 1) [x] := by
  refine ⟨some ⟨g, 0, none⟩, 1, rfl, Nat.le_refl _, by decide, ?_⟩
  intro i y hy
  match i, hy with
  | 0, hy =>
    simp only [List.getElem?_cons_zero, Option.some.injEq] at hy
    subst hy
    refine ⟨g, 0, [.string x], rfl, fun h => h, ?_, rfl, hx⟩
    intro j u hj
    match j, hj with
    | 0, hj =>
      simp only [List.getElem?_cons_zero, Option.some.injEq] at hj
      subst hj
      simp [Dat.n, World.cell?, h]
  | i + 1, hy => simp at hy

theorem heap_two (w : World) (o o' : Obj) : ((w.alloc o).alloc o').heap[w.heap.size]? = some o ∧ ((w.alloc o).alloc o').heap[w.heap.size + 1]? = some o' := by
  constructor
  · rw [heap_alloc_old _ _ (by simp)]; exact heap_alloc_new _ _
  · have := heap_alloc_new (w.alloc o) o'
    simpa using this


set_option maxHeartbeats 1000000 in
set_option maxRecDepth 100000 in
theorem law_far_bad (a b c : List ByteArray) (va vb vc : Value) (w : World) (ha : Rdv w Never va a) (hb : Rdv w Never vb b) (hc : Rdv w Never vc c) (hz : checkedFault a b ≠ 0) :
    Calls Try.prog 4 #[va, vb, vc] w fun e w' => e = .returned (.bool true) ∧ Chg Never w w' := by
  have f1 := farV_bad hz
  have f2 := farV_bad (fun h => hz ((checkedFault_comm a b).2 h))
  obtain ⟨x3, e3, f3⟩ : ∃ x3 e3, farV b c = .tuple #[.int .i64 x3, errV e3] := ⟨_, _, rfl⟩
  obtain ⟨x4, e4, f4⟩ : ∃ x4 e4, farV a c = .tuple #[.int .i64 x4, errV e4] := ⟨_, _, rfl⟩
  have F1 := Lib.hid f1
  have F2 := Lib.hid f2
  have F3 := Lib.hid f3
  have F4 := Lib.hid f4
  clear f1 f2 f3 f4 hz
  go_enter Try.func4, Try.ntmps4
  go_wp2_with fail
  refine (far_any [⟨#[120]⟩] [⟨#[121]⟩] _ _ _ (rdv_lit1 (e := 9) (heap_two _ _ _).1 (by decide)) (rdv_lit1 (e := 9) (heap_two _ _ _).2 (by decide))).mono ?_
  rintro e w1 ⟨rfl, hc1⟩
  have hw1 : Chg Never w w1 := (((Chg.refl Never w).alloc _).alloc _).trans hc1
  clear hc1
  rw [farV_xy]
  go_wp2_with fail
  refine (far_any a b _ _ _ (ha.never hw1) (hb.never hw1)).mono ?_
  rintro e w2 ⟨rfl, hc2⟩
  have hw2 := hw1.trans hc2
  clear hc2
  rw [F1.out]
  go_wp2_with fail
  refine (far_any b a _ _ _ (hb.never hw2) (ha.never hw2)).mono ?_
  rintro e w3 ⟨rfl, hc3⟩
  have hw3 := hw2.trans hc3
  clear hc3
  rw [F2.out]
  go_wp2_with fail
  refine (far_any b c _ _ _ (hb.never hw3) (hc.never hw3)).mono ?_
  rintro e w4 ⟨rfl, hc4⟩
  have hw4 := hw3.trans hc4
  clear hc4
  rw [F3.out]
  go_wp2_with fail
  refine (far_any a c _ _ _ (ha.never hw4) (hc.never hw4)).mono ?_
  rintro e w5 ⟨rfl, hc5⟩
  have hw5 := hw4.trans hc5
  clear hc5
  rw [F4.out]
  go_wp2_with fail
  go_ret
  exact ⟨rfl, hw5⟩

set_option maxHeartbeats 1000000 in
set_option maxRecDepth 100000 in
theorem law_far_third (a b c : List ByteArray) (va vb vc : Value) (w : World) (ha : Rdv w Never va a) (hb : Rdv w Never vb b) (hc : Rdv w Never vc c) (hz : checkedFault a b = 0) (hz' : checkedFault b c ≠ 0) :
    Calls Try.prog 4 #[va, vb, vc] w fun e w' => e = .returned (.bool true) ∧ Chg Never w w' := by
  have f1 := farV_ok hz
  have f2 := farV_ok ((checkedFault_comm a b).1 hz)
  rw [far_symm b a] at f2
  have f3 := farV_bad hz'
  obtain ⟨x4, e4, f4⟩ : ∃ x4 e4, farV a c = .tuple #[.int .i64 x4, errV e4] := ⟨_, _, rfl⟩
  have F1 := Lib.hid f1
  have F2 := Lib.hid f2
  have F3 := Lib.hid f3
  have F4 := Lib.hid f4
  clear f1 f2 f3 f4 hz hz'
  go_enter Try.func4, Try.ntmps4
  go_wp2_with fail
  refine (far_any [⟨#[120]⟩] [⟨#[121]⟩] _ _ _ (rdv_lit1 (e := 9) (heap_two _ _ _).1 (by decide)) (rdv_lit1 (e := 9) (heap_two _ _ _).2 (by decide))).mono ?_
  rintro e w1 ⟨rfl, hc1⟩
  have hw1 : Chg Never w w1 := (((Chg.refl Never w).alloc _).alloc _).trans hc1
  clear hc1
  rw [farV_xy]
  go_wp2_with fail
  refine (far_any a b _ _ _ (ha.never hw1) (hb.never hw1)).mono ?_
  rintro e w2 ⟨rfl, hc2⟩
  have hw2 := hw1.trans hc2
  clear hc2
  rw [F1.out]
  go_wp2_with fail
  refine (far_any b a _ _ _ (hb.never hw2) (ha.never hw2)).mono ?_
  rintro e w3 ⟨rfl, hc3⟩
  have hw3 := hw2.trans hc3
  clear hc3
  rw [F2.out]
  go_wp2_with fail
  refine (far_any b c _ _ _ (hb.never hw3) (hc.never hw3)).mono ?_
  rintro e w4 ⟨rfl, hc4⟩
  have hw4 := hw3.trans hc4
  clear hc4
  rw [F3.out]
  go_wp2_with fail
  refine (far_any a c _ _ _ (ha.never hw4) (hc.never hw4)).mono ?_
  rintro e w5 ⟨rfl, hc5⟩
  have hw5 := hw4.trans hc5
  clear hc5
  rw [F4.out]
  go_wp2_with fail
  go_ret
  exact ⟨rfl, hw5⟩

set_option maxHeartbeats 1000000 in
set_option maxRecDepth 100000 in
theorem law_far_ok (a b c : List ByteArray) (va vb vc : Value) (w : World) (ha : Rdv w Never va a) (hb : Rdv w Never vb b) (hc : Rdv w Never vc c) (hz : checkedFault a b = 0) (hz' : checkedFault b c = 0) :
    Calls Try.prog 4 #[va, vb, vc] w fun e w' => e = .returned (.bool true) ∧ Chg Never w w' := by
  have hz3 : checkedFault a c = 0 := checkedFault_zero.2 ⟨(checkedFault_zero.1 hz).1, (checkedFault_zero.1 hz').2⟩
  have f1 := farV_ok hz
  have f2 := farV_ok ((checkedFault_comm a b).1 hz)
  rw [far_symm b a] at f2
  have f3 := farV_ok hz'
  have f4 := farV_ok hz3
  have F1 := Lib.hid f1
  have F2 := Lib.hid f2
  have F3 := Lib.hid f3
  have F4 := Lib.hid f4
  have l1 := linesFault_len (checkedFault_zero.1 hz).1
  have l2 := linesFault_len (checkedFault_zero.1 hz).2
  have l3 := linesFault_len (checkedFault_zero.1 hz').2
  clear f1 f2 f3 f4 hz hz' hz3
  obtain ⟨a1, cap1, rfl, p1, p2, p3⟩ := rdv_slice ha
  obtain ⟨a2, cap2, rfl, q1, q2, q3⟩ := rdv_slice hb
  clear p3 q3
  unfold maxLen at p2 q2
  have b1 := far_le a b
  have b2 := far_le b c
  have b3 := far_tri a b c
  have b4 := far_parity _ a b rfl
  have B4 := Lib.hid b4
  clear b4
  have t4 : (((far a b : Int) - a.length - b.length).tmod 2 == 0) = true := by
    have h4 := B4.out
    have hd : (2 : Int) ∣ ((far a b : Int) - a.length - b.length) := by omega
    rw [Int.tmod_eq_zero_of_dvd hd]
    rfl
  by_cases hab : a = b
  · have e0 : far a b = 0 := (far_eq_zero a b).2 hab
    have t1 : ((far a b : Int) == 0) = true := by simp; omega
    have hd : decide (a = b) = true := decide_eq_true hab
    have HD := Lib.hid hd
    clear hd hab e0
    go_enter Try.func4, Try.ntmps4
    go_wp2_with fail
    refine (far_any [⟨#[120]⟩] [⟨#[121]⟩] _ _ _ (rdv_lit1 (e := 9) (heap_two _ _ _).1 (by decide)) (rdv_lit1 (e := 9) (heap_two _ _ _).2 (by decide))).mono ?_
    rintro e w1 ⟨rfl, hc1⟩
    have hw1 : Chg Never w w1 := (((Chg.refl Never w).alloc _).alloc _).trans hc1
    clear hc1
    rw [farV_xy]
    go_wp2_with fail
    refine (far_any a b _ _ _ (ha.never hw1) (hb.never hw1)).mono ?_
    rintro e w2 ⟨rfl, hc2⟩
    have hw2 := hw1.trans hc2
    clear hc2
    rw [F1.out]
    go_wp2_with fail
    refine (far_any b a _ _ _ (hb.never hw2) (ha.never hw2)).mono ?_
    rintro e w3 ⟨rfl, hc3⟩
    have hw3 := hw2.trans hc3
    clear hc3
    rw [F2.out]
    go_wp2_with fail
    refine (far_any b c _ _ _ (hb.never hw3) (hc.never hw3)).mono ?_
    rintro e w4 ⟨rfl, hc4⟩
    have hw4 := hw3.trans hc4
    clear hc4
    rw [F3.out]
    go_wp2_with fail
    refine (far_any a c _ _ _ (ha.never hw4) (hc.never hw4)).mono ?_
    rintro e w5 ⟨rfl, hc5⟩
    have hw5 := hw4.trans hc5
    clear hc5
    rw [F4.out]
    go_wp2_with fail
    refine (texts_any a b _ _ _ (ha.never hw5) (hb.never hw5)).mono ?_
    rintro e w6 ⟨rfl, hc6⟩
    have hw6 := hw5.trans hc6
    clear hc6
    rw [HD.out]
    go_wp2_with fail
    go_ret
    exact ⟨rfl, hw6⟩
  · have e0 : far a b ≠ 0 := fun h => hab ((far_eq_zero a b).1 h)
    have t1 : ((far a b : Int) == 0) = false := by simp; omega
    have hd : decide (a = b) = false := decide_eq_false hab
    have HD := Lib.hid hd
    clear hd
    go_enter Try.func4, Try.ntmps4
    go_wp2_with fail
    refine (far_any [⟨#[120]⟩] [⟨#[121]⟩] _ _ _ (rdv_lit1 (e := 9) (heap_two _ _ _).1 (by decide)) (rdv_lit1 (e := 9) (heap_two _ _ _).2 (by decide))).mono ?_
    rintro e w1 ⟨rfl, hc1⟩
    have hw1 : Chg Never w w1 := (((Chg.refl Never w).alloc _).alloc _).trans hc1
    clear hc1
    rw [farV_xy]
    go_wp2_with fail
    refine (far_any a b _ _ _ (ha.never hw1) (hb.never hw1)).mono ?_
    rintro e w2 ⟨rfl, hc2⟩
    have hw2 := hw1.trans hc2
    clear hc2
    rw [F1.out]
    go_wp2_with fail
    refine (far_any b a _ _ _ (hb.never hw2) (ha.never hw2)).mono ?_
    rintro e w3 ⟨rfl, hc3⟩
    have hw3 := hw2.trans hc3
    clear hc3
    rw [F2.out]
    go_wp2_with fail
    refine (far_any b c _ _ _ (hb.never hw3) (hc.never hw3)).mono ?_
    rintro e w4 ⟨rfl, hc4⟩
    have hw4 := hw3.trans hc4
    clear hc4
    rw [F3.out]
    go_wp2_with fail
    refine (far_any a c _ _ _ (ha.never hw4) (hc.never hw4)).mono ?_
    rintro e w5 ⟨rfl, hc5⟩
    have hw5 := hw4.trans hc5
    clear hc5
    rw [F4.out]
    go_wp2_with fail
    refine (texts_any a b _ _ _ (ha.never hw5) (hb.never hw5)).mono ?_
    rintro e w6 ⟨rfl, hc6⟩
    have hw6 := hw5.trans hc6
    clear hc6
    rw [HD.out]
    go_wp2_with fail
    go_ret
    exact ⟨rfl, hw6⟩

theorem law_far (a b c : List ByteArray) (va vb vc : Value) (w : World) (ha : Rdv w Never va a) (hb : Rdv w Never vb b) (hc : Rdv w Never vc c) :
    Calls Try.prog 4 #[va, vb, vc] w fun e w' => e = .returned (.bool true) ∧ Chg Never w w' := by
  by_cases hz : checkedFault a b = 0
  · by_cases hz' : checkedFault b c = 0
    · exact law_far_ok a b c va vb vc w ha hb hc hz hz'
    · exact law_far_third a b c va vb vc w ha hb hc hz hz'
  · exact law_far_bad a b c va vb vc w ha hb hc hz
end Go.Proofs.Yteaclccoicplgaa
