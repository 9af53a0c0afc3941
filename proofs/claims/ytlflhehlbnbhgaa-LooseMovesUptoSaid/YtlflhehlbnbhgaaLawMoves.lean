/-
  THE LAW LooseMoves, walked.
-/
import Derived.Test.YtlflhehlbnbhgaaLawExact
import Derived.Test.YtlflhehlbnbhgaaSpecMoves
namespace Go.Proofs.Ytlflhehlbnbhgaa
open Go.RowKit

abbrev sY : ByteArray := ⟨#[121]⟩
abbrev sAhead : ByteArray := ⟨#[97, 104, 101, 97, 100]⟩
theorem loose_yx : looseFault [sY, sX] [⟨0, 0, [⟨45, sX⟩]⟩] 0 1 = 0 ∧ looseR [sY, sX] [⟨0, 0, [⟨45, sX⟩]⟩] 0 1 = ([sY], [], [1]) := by decide +kernel
theorem ahead_false {x : ByteArray} (h : x ≠ sAhead) : (x.toList == [97, 104, 101, 97, 100]) = false := by
  have e : sAhead.toList = [97, 104, 101, 97, 100] := by rw [ByteArray.toList_eq]
  rw [← e]; exact str_beq_false h
/-- the first ones are no two the same, and not 'ahead' -/
def OkTo (a : List ByteArray) (k : Nat) : Prop := ∀ (i : Nat) (x : ByteArray), i < k → a[i]? = some x → x ≠ sAhead ∧ ∀ j, j < i → a[j]? ≠ some x
theorem okTo_zero (a : List ByteArray) : OkTo a 0 := fun i _ h => absurd h (Nat.not_lt_zero i)
theorem okTo_succ {a : List ByteArray} {k : Nat} {x : ByteArray} (h : OkTo a k) (hx : a[k]? = some x) (h1 : x ≠ sAhead) (h2 : ∀ j, j < k → a[j]? ≠ some x) : OkTo a (k + 1) := by
  intro i y hi hy
  by_cases e : i = k
  · subst e
    rw [hx] at hy
    injection hy with hy
    subst hy
    exact ⟨h1, h2⟩
  · exact h i y (by omega) hy
theorem okTo_inj {a : List ByteArray} (h : OkTo a a.length) : Inj a := by
  intro i j x hi hj
  have li := (List.getElem?_eq_some_iff.1 hi).1
  have lj := (List.getElem?_eq_some_iff.1 hj).1
  rcases Nat.lt_trichotomy i j with h1 | h1 | h1
  · exact absurd hi ((h j x lj hj).2 i h1)
  · exact h1
  · exact absurd hj ((h i x li hi).2 j h1)
theorem okTo_not {a : List ByteArray} (h : OkTo a a.length) : ∀ x ∈ a, x ≠ sAhead := by
  intro x hx
  obtain ⟨i, hi⟩ := List.getElem?_of_mem hx
  exact (h i x (List.getElem?_eq_some_iff.1 hi).1 hi).1
theorem moves_facts {a b : List ByteArray} {n : Int} {m : Nat} (hm : makeFault a b n = 0) (hsum : a.length + b.length + m ≤ 60) (ha : OkTo a a.length) (hold : ∀ h ∈ cutOf (script a b) n, oldOf h.marks ≠ []) :
    looseFault (List.replicate m sAhead ++ a) (cutOf (script a b) n) 0 m = 0 ∧ looseR (List.replicate m sAhead ++ a) (cutOf (script a b) n) 0 m = (List.replicate m sAhead ++ b, [], (cutOf (script a b) n).map fun _ => (m : Int)) := by
  obtain ⟨q0, q1, q2⟩ := makeFault_zero hm
  obtain ⟨p1, p2, p3, _⟩ := strict_cut q0 q1 q2
  obtain ⟨hla, _⟩ := checkedFault_zero.1 q0
  obtain ⟨a1, a2⟩ := linesFault_zero.1 hla
  have hl : linesFault (List.replicate m sAhead ++ a) = 0 := by
    refine linesFault_zero.2 ⟨by simp; omega, ?_⟩
    intro x hx
    rcases List.mem_append.1 hx with h | h
    · rw [(List.mem_replicate.1 h).2]
      decide +kernel
    · exact a2 x h
  have hF : looseFault (List.replicate m sAhead ++ a) (cutOf (script a b) n) 0 m = 0 := by
    rw [looseFault_range hl (by rw [p3]), if_neg (by omega)]
  refine ⟨hF, ?_⟩
  rw [looseR, if_pos hF]
  obtain ⟨_, z2, z3⟩ := strict_zero p2
  obtain ⟨fr, out, d1, d2, _, _⟩ := strictGo_inv a _ 0 0 [] b _ z3
  have hok := (hunksFault_zero (l := cutOf (script a b) n) (by rw [p3])).2
  have hb : out.length ≤ b.length := by rw [d2, List.length_append]; omega
  have hpre : ∀ x ∈ List.replicate m sAhead, x ∉ a := by
    intro x hx hxa
    exact okTo_not ha x hxa (List.mem_replicate.1 hx).2
  obtain ⟨fin', h⟩ := loose_moves (List.replicate m sAhead) a hpre (okTo_inj ha) _ 0 fr [] out 0 0 (Nat.zero_le _) (by simp) hok d1 (.inr ⟨rfl, rfl, rfl⟩) hold (by simp; omega)
  simp only [List.length_replicate, List.append_nil, List.drop_zero] at h
  unfold looseOf
  simp only [show ((0 : Int)).toNat = 0 from rfl, Int.toNat_natCast, h]
  rw [List.append_assoc, ← d2]

set_option maxHeartbeats 4000000 in
set_option maxRecDepth 100000 in
theorem moves_bad (a b : List ByteArray) (n by_ : Int) (va vb : Value) (w : World) (ha : Rdv w Never va a) (hb : Rdv w Never vb b) (hn : I64 n)
    (HZ : Hid (makeFault a b n ≠ 0)) :
    Calls Try.prog 6 #[va, vb, .int .i64 n, .int .i64 by_] w fun e w' => e = .returned (.bool true) ∧ Chg Never w w' := by
  go_enter Try.func6, Try.ntmps6
  go_wp2_with fail
  refine (loose_any [sY, sX] [⟨0, 0, [⟨45, sX⟩]⟩] 0 1 _ _ _ (rdv_lit (e := 9) (cs := [.string sY, .string sX]) (heap_three _ _ _ _).2.2 rfl (by decide) ⟨⟨rfl, by decide⟩, ⟨rfl, by decide⟩, trivial⟩) (rdv_lit (e := 31) (cs := [.int .i64 0, .int .i64 0, .slice (some ⟨w.heap.size, 0, none⟩) 1 1]) (heap_three _ _ _ _).2.1 rfl (by decide)
    ⟨⟨_, rfl, rdv_lit (e := 29) (cs := [.int .u8 45, .string sX]) (heap_three _ _ _ _).1 rfl (by decide) ⟨rd_mark _ _ 45 sX (by decide) (by decide) (by decide), trivial⟩⟩, trivial⟩)).mono ?_
  rintro e w1 ⟨r1, r2, r3, rfl, hc1, hr1, hr2, hr3⟩
  have hw : Chg Never w w1 := ((((Chg.refl Never w).alloc _).alloc _).alloc _).trans hc1
  clear hc1
  rw [loose_yx.1, errV_zero]
  rw [loose_yx.2] at hr1 hr2 hr3
  have hr1 := hr1.sub (O' := Never) (fun _ _ h => h.elim)
  obtain ⟨a2, c2, rfl, _, _, _⟩ := rdv_slice hr2
  obtain ⟨a3, c3, rfl, _, _, hel⟩ := rdv_slice hr3
  obtain ⟨fb, fo, rfl, _, f0, _⟩ := elems_int hel (i := 0) rfl
  simp only [Nat.add_zero] at f0
  clear hr2 hr3 hel
  go_wp2_with fail
  refine (texts_any [sY] [sY] _ _ _ (hr1.never ((Chg.refl _ _).alloc _)) (rdv_lit (e := 9) (cs := [.string sY]) (heap_alloc_new _ _) rfl (by decide) ⟨⟨rfl, by decide⟩, trivial⟩)).mono ?_
  rintro e w2 ⟨rfl, hc2⟩
  have hw : Chg Never w w2 := (hw.alloc _).trans hc2
  have f0 := ((Chg.refl Never w1).alloc _ |>.trans hc2).cellNever f0
  clear hc2 hr1
  rw [decide_eq_true rfl]
  go_wp2_with fail
  clear f0
  refine (make_any a b n _ _ _ (ha.never hw) (hb.never hw) hn).mono ?_
  rintro e w3 ⟨r3, rfl, hc3, hr3⟩
  have hw := hw.trans hc3
  have hr3 := hr3.sub (O' := Never) (fun _ _ h => h.elim)
  clear hc3
  rw [errV_pos HZ.out]
  go_wp2_with fail
  go_ret
  exact ⟨rfl, hw⟩
set_option maxHeartbeats 4000000 in
set_option maxRecDepth 100000 in
theorem moves_out (a b : List ByteArray) (n by_ : Int) (va vb : Value) (w : World) (ha : Rdv w Never va a) (hb : Rdv w Never vb b) (hn : I64 n)
    (HZ : Hid (makeFault a b n = 0)) (hby : by_ < 0 ∨ 10 < by_ ∨ 60 < (a.length : Int) + b.length + by_) :
    Calls Try.prog 6 #[va, vb, .int .i64 n, .int .i64 by_] w fun e w' => e = .returned (.bool true) ∧ Chg Never w w' := by
  obtain ⟨q0, q1, q2⟩ := makeFault_zero HZ.out
  obtain ⟨p1, p2, p3, p4⟩ := strict_cut q0 q1 q2
  obtain ⟨la1, _⟩ := linesFault_zero.1 (checkedFault_zero.1 q0).1
  obtain ⟨lb1, _⟩ := linesFault_zero.1 (checkedFault_zero.1 q0).2
  have HMR : Hid (makeR a b n = cutOf (script a b) n) := by rw [Hid, makeR, if_pos q0, cutR, if_pos p1]
  obtain ⟨aa, ac, rfl, a1, a2, _⟩ := rdv_slice ha
  obtain ⟨ba, bc, rfl, b1, b2, _⟩ := rdv_slice hb
  unfold maxLen at a2 b2
  clear q0 p1 p2 p4
  by_cases h1 : by_ < 0
  · clear hby
    go_enter Try.func6, Try.ntmps6
    go_wp2_with fail
    refine (loose_any [sY, sX] [⟨0, 0, [⟨45, sX⟩]⟩] 0 1 _ _ _ (rdv_lit (e := 9) (cs := [.string sY, .string sX]) (heap_three _ _ _ _).2.2 rfl (by decide) ⟨⟨rfl, by decide⟩, ⟨rfl, by decide⟩, trivial⟩) (rdv_lit (e := 31) (cs := [.int .i64 0, .int .i64 0, .slice (some ⟨w.heap.size, 0, none⟩) 1 1]) (heap_three _ _ _ _).2.1 rfl (by decide)
      ⟨⟨_, rfl, rdv_lit (e := 29) (cs := [.int .u8 45, .string sX]) (heap_three _ _ _ _).1 rfl (by decide) ⟨rd_mark _ _ 45 sX (by decide) (by decide) (by decide), trivial⟩⟩, trivial⟩)).mono ?_
    rintro e w1 ⟨r1, r2, r3, rfl, hc1, hr1, hr2, hr3⟩
    have hw : Chg Never w w1 := ((((Chg.refl Never w).alloc _).alloc _).alloc _).trans hc1
    clear hc1
    rw [loose_yx.1, errV_zero]
    rw [loose_yx.2] at hr1 hr2 hr3
    have hr1 := hr1.sub (O' := Never) (fun _ _ h => h.elim)
    obtain ⟨a2, c2, rfl, _, _, _⟩ := rdv_slice hr2
    obtain ⟨a3, c3, rfl, _, _, hel⟩ := rdv_slice hr3
    obtain ⟨fb, fo, rfl, _, f0, _⟩ := elems_int hel (i := 0) rfl
    simp only [Nat.add_zero] at f0
    clear hr2 hr3 hel
    go_wp2_with fail
    refine (texts_any [sY] [sY] _ _ _ (hr1.never ((Chg.refl _ _).alloc _)) (rdv_lit (e := 9) (cs := [.string sY]) (heap_alloc_new _ _) rfl (by decide) ⟨⟨rfl, by decide⟩, trivial⟩)).mono ?_
    rintro e w2 ⟨rfl, hc2⟩
    have hw : Chg Never w w2 := (hw.alloc _).trans hc2
    have f0 := ((Chg.refl Never w1).alloc _ |>.trans hc2).cellNever f0
    clear hc2 hr1
    rw [decide_eq_true rfl]
    go_wp2_with fail
    clear f0
    refine (make_any a b n _ _ _ (ha.never hw) (hb.never hw) hn).mono ?_
    rintro e w3 ⟨r3, rfl, hc3, hr3⟩
    have hw := hw.trans hc3
    have hr3 := hr3.sub (O' := Never) (fun _ _ h => h.elim)
    clear hc3
    rw [HZ.out, errV_zero]
    go_wp2_with fail
    go_ret
    exact ⟨rfl, hw⟩
  · by_cases h2 : 10 < by_
    · clear hby
      go_enter Try.func6, Try.ntmps6
      go_wp2_with fail
      refine (loose_any [sY, sX] [⟨0, 0, [⟨45, sX⟩]⟩] 0 1 _ _ _ (rdv_lit (e := 9) (cs := [.string sY, .string sX]) (heap_three _ _ _ _).2.2 rfl (by decide) ⟨⟨rfl, by decide⟩, ⟨rfl, by decide⟩, trivial⟩) (rdv_lit (e := 31) (cs := [.int .i64 0, .int .i64 0, .slice (some ⟨w.heap.size, 0, none⟩) 1 1]) (heap_three _ _ _ _).2.1 rfl (by decide)
        ⟨⟨_, rfl, rdv_lit (e := 29) (cs := [.int .u8 45, .string sX]) (heap_three _ _ _ _).1 rfl (by decide) ⟨rd_mark _ _ 45 sX (by decide) (by decide) (by decide), trivial⟩⟩, trivial⟩)).mono ?_
      rintro e w1 ⟨r1, r2, r3, rfl, hc1, hr1, hr2, hr3⟩
      have hw : Chg Never w w1 := ((((Chg.refl Never w).alloc _).alloc _).alloc _).trans hc1
      clear hc1
      rw [loose_yx.1, errV_zero]
      rw [loose_yx.2] at hr1 hr2 hr3
      have hr1 := hr1.sub (O' := Never) (fun _ _ h => h.elim)
      obtain ⟨a2, c2, rfl, _, _, _⟩ := rdv_slice hr2
      obtain ⟨a3, c3, rfl, _, _, hel⟩ := rdv_slice hr3
      obtain ⟨fb, fo, rfl, _, f0, _⟩ := elems_int hel (i := 0) rfl
      simp only [Nat.add_zero] at f0
      clear hr2 hr3 hel
      go_wp2_with fail
      refine (texts_any [sY] [sY] _ _ _ (hr1.never ((Chg.refl _ _).alloc _)) (rdv_lit (e := 9) (cs := [.string sY]) (heap_alloc_new _ _) rfl (by decide) ⟨⟨rfl, by decide⟩, trivial⟩)).mono ?_
      rintro e w2 ⟨rfl, hc2⟩
      have hw : Chg Never w w2 := (hw.alloc _).trans hc2
      have f0 := ((Chg.refl Never w1).alloc _ |>.trans hc2).cellNever f0
      clear hc2 hr1
      rw [decide_eq_true rfl]
      go_wp2_with fail
      clear f0
      refine (make_any a b n _ _ _ (ha.never hw) (hb.never hw) hn).mono ?_
      rintro e w3 ⟨r3, rfl, hc3, hr3⟩
      have hw := hw.trans hc3
      have hr3 := hr3.sub (O' := Never) (fun _ _ h => h.elim)
      clear hc3
      rw [HZ.out, errV_zero]
      go_wp2_with fail
      go_ret
      exact ⟨rfl, hw⟩
    · have h3 : 60 < (a.length : Int) + b.length + by_ := by omega
      clear hby
      go_enter Try.func6, Try.ntmps6
      go_wp2_with fail
      refine (loose_any [sY, sX] [⟨0, 0, [⟨45, sX⟩]⟩] 0 1 _ _ _ (rdv_lit (e := 9) (cs := [.string sY, .string sX]) (heap_three _ _ _ _).2.2 rfl (by decide) ⟨⟨rfl, by decide⟩, ⟨rfl, by decide⟩, trivial⟩) (rdv_lit (e := 31) (cs := [.int .i64 0, .int .i64 0, .slice (some ⟨w.heap.size, 0, none⟩) 1 1]) (heap_three _ _ _ _).2.1 rfl (by decide)
        ⟨⟨_, rfl, rdv_lit (e := 29) (cs := [.int .u8 45, .string sX]) (heap_three _ _ _ _).1 rfl (by decide) ⟨rd_mark _ _ 45 sX (by decide) (by decide) (by decide), trivial⟩⟩, trivial⟩)).mono ?_
      rintro e w1 ⟨r1, r2, r3, rfl, hc1, hr1, hr2, hr3⟩
      have hw : Chg Never w w1 := ((((Chg.refl Never w).alloc _).alloc _).alloc _).trans hc1
      clear hc1
      rw [loose_yx.1, errV_zero]
      rw [loose_yx.2] at hr1 hr2 hr3
      have hr1 := hr1.sub (O' := Never) (fun _ _ h => h.elim)
      obtain ⟨a2, c2, rfl, _, _, _⟩ := rdv_slice hr2
      obtain ⟨a3, c3, rfl, _, _, hel⟩ := rdv_slice hr3
      obtain ⟨fb, fo, rfl, _, f0, _⟩ := elems_int hel (i := 0) rfl
      simp only [Nat.add_zero] at f0
      clear hr2 hr3 hel
      go_wp2_with fail
      refine (texts_any [sY] [sY] _ _ _ (hr1.never ((Chg.refl _ _).alloc _)) (rdv_lit (e := 9) (cs := [.string sY]) (heap_alloc_new _ _) rfl (by decide) ⟨⟨rfl, by decide⟩, trivial⟩)).mono ?_
      rintro e w2 ⟨rfl, hc2⟩
      have hw : Chg Never w w2 := (hw.alloc _).trans hc2
      have f0 := ((Chg.refl Never w1).alloc _ |>.trans hc2).cellNever f0
      clear hc2 hr1
      rw [decide_eq_true rfl]
      go_wp2_with fail
      clear f0
      refine (make_any a b n _ _ _ (ha.never hw) (hb.never hw) hn).mono ?_
      rintro e w3 ⟨r3, rfl, hc3, hr3⟩
      have hw := hw.trans hc3
      have hr3 := hr3.sub (O' := Never) (fun _ _ h => h.elim)
      clear hc3
      rw [HZ.out, errV_zero]
      go_wp2_with fail
      go_ret
      exact ⟨rfl, hw⟩

set_option maxHeartbeats 4000000 in
set_option maxRecDepth 100000 in
theorem moves_ok (a b : List ByteArray) (n by_ : Int) (va vb : Value) (w : World) (ha : Rdv w Never va a) (hb : Rdv w Never vb b) (hn : I64 n)
    (HZ : Hid (makeFault a b n = 0)) (h0 : 0 ≤ by_) (h10 : by_ ≤ 10) (hsum : (a.length : Int) + b.length + by_ ≤ 60) :
    Calls Try.prog 6 #[va, vb, .int .i64 n, .int .i64 by_] w fun e w' => e = .returned (.bool true) ∧ Chg Never w w' := by
  obtain ⟨m, rfl⟩ := Int.eq_ofNat_of_zero_le h0
  have HMF := fun (h1 : OkTo a a.length) h2 => moves_facts (m := m) HZ.out (by omega) h1 h2
  obtain ⟨q0, q1, q2⟩ := makeFault_zero HZ.out
  obtain ⟨p1, p2, p3, p4⟩ := strict_cut q0 q1 q2
  obtain ⟨la1, _⟩ := linesFault_zero.1 (checkedFault_zero.1 q0).1
  obtain ⟨lb1, _⟩ := linesFault_zero.1 (checkedFault_zero.1 q0).2
  have HMR : Hid (makeR a b n = cutOf (script a b) n) := by rw [Hid, makeR, if_pos q0, cutR, if_pos p1]
  obtain ⟨aa, ac, rfl, a1, a2, _⟩ := rdv_slice ha
  obtain ⟨ba, bc, rfl, b1, b2, _⟩ := rdv_slice hb
  unfold maxLen at a2 b2
  clear q0 p1 p2 p4
  have hl60 := (hunksFault_zero (l := cutOf (script a b) n) (by rw [p3])).1
  have hmem := hOk_mem _ _ _ (hunksFault_zero (l := cutOf (script a b) n) (by rw [p3])).2
  clear p3
  go_enter Try.func6, Try.ntmps6
  go_wp2_with fail
  refine (loose_any [sY, sX] [⟨0, 0, [⟨45, sX⟩]⟩] 0 1 _ _ _ (rdv_lit (e := 9) (cs := [.string sY, .string sX]) (heap_three _ _ _ _).2.2 rfl (by decide) ⟨⟨rfl, by decide⟩, ⟨rfl, by decide⟩, trivial⟩) (rdv_lit (e := 31) (cs := [.int .i64 0, .int .i64 0, .slice (some ⟨w.heap.size, 0, none⟩) 1 1]) (heap_three _ _ _ _).2.1 rfl (by decide)
    ⟨⟨_, rfl, rdv_lit (e := 29) (cs := [.int .u8 45, .string sX]) (heap_three _ _ _ _).1 rfl (by decide) ⟨rd_mark _ _ 45 sX (by decide) (by decide) (by decide), trivial⟩⟩, trivial⟩)).mono ?_
  rintro e w1 ⟨r1, r2, r3, rfl, hc1, hr1, hr2, hr3⟩
  have hw : Chg Never w w1 := ((((Chg.refl Never w).alloc _).alloc _).alloc _).trans hc1
  clear hc1
  rw [loose_yx.1, errV_zero]
  rw [loose_yx.2] at hr1 hr2 hr3
  have hr1 := hr1.sub (O' := Never) (fun _ _ h => h.elim)
  obtain ⟨a2, c2, rfl, _, _, _⟩ := rdv_slice hr2
  obtain ⟨a3, c3, rfl, _, _, hel⟩ := rdv_slice hr3
  obtain ⟨fb, fo, rfl, _, f0, _⟩ := elems_int hel (i := 0) rfl
  simp only [Nat.add_zero] at f0
  clear hr2 hr3 hel
  go_wp2_with fail
  refine (texts_any [sY] [sY] _ _ _ (hr1.never ((Chg.refl _ _).alloc _)) (rdv_lit (e := 9) (cs := [.string sY]) (heap_alloc_new _ _) rfl (by decide) ⟨⟨rfl, by decide⟩, trivial⟩)).mono ?_
  rintro e w2 ⟨rfl, hc2⟩
  have hw : Chg Never w w2 := (hw.alloc _).trans hc2
  have f0 := ((Chg.refl Never w1).alloc _ |>.trans hc2).cellNever f0
  clear hc2 hr1
  rw [decide_eq_true rfl]
  go_wp2_with fail
  clear f0
  refine (make_any a b n _ _ _ (ha.never hw) (hb.never hw) hn).mono ?_
  rintro e w3 ⟨r3, rfl, hc3, hr3⟩
  have hw := hw.trans hc3
  have hr3 := hr3.sub (O' := Never) (fun _ _ h => h.elim)
  clear hc3
  rw [HZ.out, errV_zero]
  rw [HMR.out] at hr3
  generalize cutOf (script a b) n = L at *
  obtain ⟨ga, gc, rfl, g1, g2, g3⟩ := rdv_slice hr3
  unfold maxLen at g2
  have ha2 := ha.never hw
  have hb2 := hb.never hw
  obtain ⟨aa', ac', ea, _, _, ha3⟩ := rdv_slice ha2
  obtain ⟨bb', bc', eb, _, _, hb3⟩ := rdv_slice hb2
  cases ea
  cases eb
  clear ha2 hb2
  go_wp2_with fail
  go_loopw [17] (fun i wr => ∃ k : Nat, k ≤ a.length ∧ i = .int .i64 k ∧ Hid (OkTo a k) ∧ Chg Never w3 wr) (fun i _ => a.length - (intOf i).toNat)
  case atStart => exact ⟨0, Nat.zero_le _, rfl, okTo_zero a, Chg.refl _ _⟩
  case round =>
    obtain ⟨k, hk, rfl, hok, hc⟩ := hrel
    by_cases hlt : k < a.length
    · obtain ⟨x, hx⟩ : ∃ x, a[k]? = some x := ⟨a[k], by simp [hlt]⟩
      obtain ⟨b', o', rfl, _, _, hcx, hxs⟩ := elems_str ha3 hx
      have HX := Lib.hid hx
      clear hx
      go_wp2_with fail
      go_loopw [18] (fun i2 wr' => ∃ j : Nat, j ≤ k ∧ i2 = .int .i64 j ∧ Hid (∀ q, q < j → a[q]? ≠ some x) ∧ Chg Never w3 wr') (fun i2 _ => k - (intOf i2).toNat)
      case atStart => exact ⟨0, Nat.zero_le _, rfl, fun q h => absurd h (Nat.not_lt_zero q), hc⟩
      case round =>
        clear hc
        obtain ⟨j, hj, rfl, hne, hc⟩ := hrel
        have hcx := hc.cellNever hcx
        by_cases hjl : j < k
        · obtain ⟨y, hy⟩ : ∃ y, a[j]? = some y := ⟨a[j]'(by omega), by simp [show j < a.length by omega]⟩
          obtain ⟨b2', o2', e2, _, _, hcy, hys⟩ := elems_str ha3 hy
          injection e2 with e2
          injection e2 with e21 e22 e23
          subst e21 e22
          have hcy := hc.cellNever hcy
          have HY := Lib.hid hy
          clear hy ha3 hb3 g3 hr3
          have l1 : (k : Int) < a.length := by omega
          have l2 : (j : Int) < a.length := by omega
          by_cases hxy : x = y
          · subst hxy
            go_wp2_with fail
            go_quiet (fail)
            go_wp2_with fail
            go_ret
            exact ⟨rfl, (hw.trans hc).drewN _⟩
          · have hnb := str_beq_false hxy
            go_wp2_with fail
            go_quiet (fail)
            go_wp2_with fail
            go_roundw
            case rel => exact ⟨j + 1, by omega, by go_num, fun q hq => by
              by_cases e : q = j
              · subst e; rw [HY.out]; intro e; injection e with e; exact hxy e.symm
              · exact hne.out q (by omega), hc.drewN _⟩
            case measure => simp [intOf] <;> omega
        · obtain rfl : j = k := by omega
          clear ha3 hb3 g3 hr3
          by_cases hxy : x = sAhead
          · subst hxy
            go_wp2_with fail
            go_ret
            exact ⟨rfl, hw.trans hc⟩
          · have hnb := ahead_false hxy
            go_wp2_with fail
            go_roundw
            case rel => exact ⟨j + 1, by omega, by go_num, okTo_succ hok.out HX.out hxy hne.out, hc⟩
            case measure => simp [intOf] <;> omega
    · obtain rfl : k = a.length := by omega
      have HOA := hok
      clear hok
      go_wp2_with fail
      clear hlt hk
      go_loopw [19] (fun i wr => ∃ k : Nat, k ≤ b.length ∧ i = .int .i64 k ∧ Chg Never w3 wr) (fun i _ => b.length - (intOf i).toNat)
      case atStart => exact ⟨0, Nat.zero_le _, rfl, hc⟩
      case round =>
        clear hc
        obtain ⟨k, hk, rfl, hc⟩ := hrel
        by_cases hlt : k < b.length
        · obtain ⟨x, hx⟩ : ∃ x, b[k]? = some x := ⟨b[k], by simp [hlt]⟩
          obtain ⟨b', o', rfl, _, _, hcx, hxs⟩ := elems_str hb3 hx
          have hcx0 := hc.cellNever hcx
          clear hx
          by_cases hxy : x = sAhead
          · subst hxy
            clear ha3 hb3 g3 hr3
            go_wp2_with fail
            go_ret
            exact ⟨rfl, hw.trans hc⟩
          · have hnb := ahead_false hxy
            clear hxy
            go_wp2_with fail
            clear hcx0
            go_loopw [20] (fun i2 wr' => ∃ j : Nat, j ≤ k ∧ i2 = .int .i64 j ∧ Chg Never w3 wr') (fun i2 _ => k - (intOf i2).toNat)
            case atStart => exact ⟨0, Nat.zero_le _, rfl, hc⟩
            case round =>
              clear hc
              obtain ⟨j, hj, rfl, hc⟩ := hrel
              have hcx := hc.cellNever hcx
              by_cases hjl : j < k
              · obtain ⟨y, hy⟩ : ∃ y, b[j]? = some y := ⟨b[j]'(by omega), by simp [show j < b.length by omega]⟩
                obtain ⟨b2', o2', e2, _, _, hcy, hys⟩ := elems_str hb3 hy
                injection e2 with e2
                injection e2 with e21 e22 e23
                subst e21 e22
                have hcy := hc.cellNever hcy
                clear hy ha3 hb3 g3 hr3
                have l1 : (k : Int) < b.length := by omega
                have l2 : (j : Int) < b.length := by omega
                by_cases hxy : x = y
                · subst hxy
                  go_wp2_with fail
                  go_quiet (fail)
                  go_wp2_with fail
                  go_ret
                  exact ⟨rfl, (hw.trans hc).drewN _⟩
                · have hnb2 := str_beq_false hxy
                  go_wp2_with fail
                  go_quiet (fail)
                  go_wp2_with fail
                  go_roundw
                  case rel => exact ⟨j + 1, by omega, by go_num, hc.drewN _⟩
                  case measure => simp [intOf] <;> omega
              · obtain rfl : j = k := by omega
                clear ha3 hb3 g3 hr3
                go_wp2_with fail
                go_roundw
                case rel => exact ⟨j + 1, by omega, by go_num, hc⟩
                case measure => simp [intOf] <;> omega
        · go_wp2_with fail
          clear hlt hk
          go_loopw [21] (fun i wr => ∃ k : Nat, k ≤ L.length ∧ i = .int .i64 k ∧ Hid (∀ q x, q < k → L[q]? = some x → oldOf x.marks ≠ []) ∧ Chg Never w3 wr) (fun i _ => L.length - (intOf i).toNat)
          case atStart => exact ⟨0, Nat.zero_le _, rfl, fun q _ h => absurd h (Nat.not_lt_zero q), hc⟩
          case round =>
            clear hc
            obtain ⟨k, hk, rfl, hold, hc⟩ := hrel
            by_cases hlt : k < L.length
            · obtain ⟨x, hx⟩ : ∃ x, L[k]? = some x := ⟨L[k], by simp [hlt]⟩
              obtain ⟨b', off, mv, rfl, _, _, c0, c1, c2, hmv⟩ := elems_hunk g3 hx
              have c2 := hc.cellNever c2
              have hmv := hmv.never hc
              have HSF := Lib.hid (hmem x (List.mem_of_getElem? hx))
              have HX := Lib.hid hx
              clear hx c0 c1 ha3 hb3 g3 hr3
              go_wp2_with fail
              refine (refOld_any x.marks _ _ hmv HSF.out).mono ?_
              rintro e w4 ⟨r8, rfl, hc4, hr8⟩
              obtain ⟨na, nc, rfl, _, _, _⟩ := rdv_slice hr8
              have hc := hc.trans hc4
              clear hc4 hr8 hmv
              by_cases h8 : (those x.marks 43).length = 0
              · have h8' : ((those x.marks 43).length : Int) = 0 := by omega
                go_wp2_with fail
                go_ret
                exact ⟨rfl, hw.trans hc⟩
              · have h8' : ¬ ((those x.marks 43).length : Int) = 0 := by omega
                go_wp2_with fail
                go_roundw
                case rel => exact ⟨k + 1, by omega, by go_num, fun q y hq hy => by
                  by_cases e : q = k
                  · subst e
                    rw [HX.out] at hy
                    injection hy with hy
                    subst hy
                    intro e
                    exact h8 (by rw [show those x.marks 43 = oldOf x.marks from rfl, e]; rfl)
                  · exact hold.out q y (by omega) hy, hc⟩
                case measure => simp [intOf] <;> omega
            · obtain rfl : k = L.length := by omega
              have HFA := Lib.hid (HMF HOA.out (fun h hh => by
                obtain ⟨i, hi⟩ := List.getElem?_of_mem hh
                exact hold.out i h (List.getElem?_eq_some_iff.1 hi).1 hi))
              have hw := hw.trans hc
              have hr3 := hr3.never hc
              have hav := ha.never hw
              have hbv := hb.never hw
              clear hold hc ha3 hb3 g3 HOA hlt hk HMF
              generalize wr = W0 at *
              go_wp2_with fail
              go_loopw [22, 24] (fun av i wr => ∃ k : Nat, k ≤ m ∧ i = .int .i64 k ∧ Chg Never W0 wr ∧ Own 9 wr (Old W0.heap.size) av (List.replicate k sAhead)) (fun _ i _ => m - (intOf i).toNat)
              case atStart => exact ⟨0, Nat.zero_le _, rfl, Chg.refl _ _, own_nil _ _ _⟩
              case round =>
                obtain ⟨k, hk, rfl, hc, hown⟩ := hrel
                by_cases hlt : k < m
                · have hlr : (List.replicate k sAhead).length ≤ 1000000000 := by rw [List.length_replicate]; omega
                  go_wp2_with (at_builtin; refine wpList_push (by rfl) _ _ 39 (by rfl) elemOk_str (O := Old W0.heap.size) (l := List.replicate k sAhead) (y := sAhead) (by rfl) (by rfl) (by rfl) hown ⟨rfl, by decide⟩ (old_lt hc) hlr ?_; intro v' w4 hown2 hc2 _)
                  have hc3 := own_step hc hown hc2
                  clear hc2 hown hlr
                  go_roundw
                  case rel => exact ⟨k + 1, by omega, by go_num, hc3, by rw [List.replicate_succ']; exact hown2⟩
                  case measure => simp [intOf] <;> omega
                · obtain rfl : k = m := by omega
                  obtain ⟨ha1, ha2, ha3, rfl⟩ := own_isSlice hown
                  have hA0 := hown.rdv.sub (O' := Never) (fun _ _ h => h.elim)
                  have hrl : (List.replicate k sAhead).length = k := List.length_replicate
                  have hle1 : ([] : List ByteArray).length + (List.replicate k sAhead).length ≤ 1000000000 := by rw [hrl]; simp; omega
                  have hle2 : ([] ++ List.replicate k sAhead).length + b.length ≤ 1000000000 := by rw [List.nil_append, hrl]; omega
                  have hle3 : (List.replicate k sAhead).length + a.length ≤ 1000000000 := by rw [hrl]; omega
                  have hout1 := own_block_lt hown
                  have hbw := hbv.never hc
                  have haw := hav.never hc
                  clear hlt hk
                  go_wp2_with (first
                    | (at_builtin; refine wpList_many (by rfl) _ _ 39 (by rfl) elemOk_str (O := Old wr.heap.size) (l := []) (m := List.replicate k sAhead) (by rfl) (by rfl) (own_nil _ _ _) hA0 (rd_str_any _ _ _) (fun _ h => h) hle1 ?_; intro v1 w1' hw1 hd1; obtain ⟨s1, n1, c1, rfl⟩ := own_isSlice hw1; have hd1' : Chg Never wr w1' := hd1.mono (fun q _ h => by cases h); have hah1 := hown.keep (O'' := fun q => Old W0.heap.size q ∨ OwnB (.slice s1 n1 c1) q) hd1 (fun q _ h => by cases h) (fun q hq h => h.elim (fun h => h) (fun h => absurd hq (own_out hw1 q h))); have hb1 := hbw.never hd1'; have hol := old_lt hd1'; clear hA0 hd1)
                    | (at_builtin; refine wpList_many (by rfl) _ _ 39 (by rfl) elemOk_str (O := Old wr.heap.size) (l := [] ++ List.replicate k sAhead) (m := b) (by rfl) (by rfl) hw1 hb1 (rd_str_any _ _ _) hol hle2 ?_; intro v2 w2' hw2 hd2; obtain ⟨s2, n2, c2, rfl⟩ := own_isSlice hw2; have hd2' : Chg Never wr w2' := hd1'.trans' hd2 (fun i hi h => own_out hw1 i h hi); have hah2 := hah1.keep (O'' := Old W0.heap.size) hd2 (fun q _ h => .inr h) (fun q _ h => .inl h); have ha2' := haw.never hd2'; have hol3 := old_lt (hc.trans hd2'); clear hah1 hb1 hol hw1 hd1' hd2)
                    | (at_builtin; refine wpList_many (by rfl) _ _ 39 (by rfl) elemOk_str (O := Old W0.heap.size) (l := List.replicate k sAhead) (m := a) (by rfl) (by rfl) hah2 ha2' (rd_str_any _ _ _) hol3 hle3 ?_; intro v3 w3' hw3 hd3; obtain ⟨s3, n3, c3, rfl⟩ := own_isSlice hw3; have hd3' : Chg Never W0 w3' := (hc.trans hd2').trans' hd3 (fun i hi h => own_out hah2 i h hi); have hwant := (hw2.keep (O'' := Old wr.heap.size) hd3 (fun q _ h => hout1 q h) (fun _ _ h => h)).rdv.sub (O' := Never) (fun _ _ h => h.elim); have hAR := hw3.rdv.sub (O' := Never) (fun _ _ h => h.elim); have hL3 := hr3.never hd3'; have hwF := hw.trans hd3'; clear hah2 ha2' hol3 hw2 hw3 hd3 hd2' hown hout1 hbw haw hbv hav))
                  refine (loose_any (List.replicate k sAhead ++ a) L 0 k _ _ _ hAR hL3).mono ?_
                  rintro e w5 ⟨r4, r5, r6, rfl, hc5, hr4, hr5, hr6⟩
                  rw [HFA.out.1, errV_zero]
                  rw [HFA.out.2] at hr4 hr5 hr6
                  simp only [List.nil_append] at hwant
                  have hwF := hwF.trans hc5
                  have hwant := hwant.never hc5
                  clear HFA
                  generalize List.replicate k sAhead ++ b = PB at *
                  have hr4 := hr4.sub (O' := Never) (fun _ _ h => h.elim)
                  obtain ⟨x4, y4, rfl, _, _, _⟩ := rdv_slice hr4
                  obtain ⟨x5, y5, rfl, _, _, _⟩ := rdv_slice hr5
                  obtain ⟨pa, pc, rfl, p1, p2, hP⟩ := rdv_slice hr6
                  clear hAR hL3 hc5 hr5 hr6
                  simp only [List.length_map, List.length_nil] at *
                  unfold maxLen at p2
                  go_wp2_with fail
                  refine (texts_any PB PB _ _ _ hr4 hwant).mono ?_
                  rintro e w6 ⟨rfl, hc6⟩
                  have hwF := hwF.trans hc6
                  have hP := hP.keep (O'' := Never) hc6 (fun _ _ h => h.elim) (fun _ _ h => h.elim)
                  clear hc6 hr4 hwant
                  rw [decide_eq_true rfl]
                  go_wp2_with fail
                  go_loop [28] (fun i => ∃ q : Nat, q ≤ L.length ∧ i = .int .i64 q) (fun i => L.length - (intOf i).toNat)
                  case atStart => exact ⟨0, Nat.zero_le _, rfl⟩
                  case round =>
                    obtain ⟨q, hq, rfl⟩ := hrel
                    by_cases hlt : q < L.length
                    · have hq1 : (L.map fun _ => (k : Int))[q]? = some (k : Int) := by simp [hlt]
                      obtain ⟨pb, po, rfl, _, q0, qi⟩ := elems_int hP hq1
                      clear hP hq1
                      go_wp2_with fail
                      go_round
                      case rel => exact ⟨q + 1, by omega, by go_num⟩
                      case measure => simp [intOf] <;> omega
                    · clear hP
                      go_wp2_with fail
                      go_ret
                      exact ⟨rfl, hwF⟩

theorem law_moves (a b : List ByteArray) (n by_ : Int) (va vb : Value) (w : World) (ha : Rdv w Never va a) (hb : Rdv w Never vb b) (hn : I64 n) (_ : I64 by_) :
    Calls Try.prog 6 #[va, vb, .int .i64 n, .int .i64 by_] w fun e w' => e = .returned (.bool true) ∧ Chg Never w w' := by
  by_cases h1 : makeFault a b n = 0
  · by_cases h2 : by_ < 0 ∨ 10 < by_ ∨ 60 < (a.length : Int) + b.length + by_
    · exact moves_out a b n by_ va vb w ha hb hn h1 h2
    · exact moves_ok a b n by_ va vb w ha hb hn h1 (by omega) (by omega) (by omega)
  · exact moves_bad a b n by_ va vb w ha hb hn h1
end Go.Proofs.Ytlflhehlbnbhgaa
