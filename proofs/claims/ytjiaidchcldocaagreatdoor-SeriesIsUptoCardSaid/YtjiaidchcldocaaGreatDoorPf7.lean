/-
  PARTS: THE WALKS of unified.span and Write.; THE WALKS of series.titled, subject, id, and of the document's word at 20 bytes.; BOXES, in plain Lean (chapter 12): one mail behind the other.; PARTS BETWEEN CUTS, in plain Lean: the library's splits are those of the plain laws.; THE WALKS of unified.number and read.; SERIES, in plain Lean (chapter 13): a mail's part as the program reads it.; A BOX OF FOUR CELLS. No program in sight.; A READER OF HUNKS IN MEMORY ('RdrAt'): a box of three cells: the hunks that have been read (the last one still grows), how many marks it needs.
-/
import Derived.Test.YtjiaidchcldocaaGreatDoorPf2
import Derived.Test.YtjiaidchcldocaaGreatDoorPf6
import Derived.StillTailTactics
import Derived.Test.YtjiaidchcldocaaGreatDoorPf5
import Derived.Deep.RegionHeld3
import Derived.Test.YtjiaidchcldocaaGreatDoorPf1
import Derived.Lib.SplitLaws
import Derived.Lib.IndexMore
import Derived.Test.YtjiaidchcldocaaGreatDoorPf3
set_option linter.unusedVariables false
set_option linter.unusedSimpArgs false
namespace Go.Proofs.YtjiaidchcldocaaGreatDoor
open Go.RowKit

theorem toB_size' (X : List UInt8) : (toB X).size = X.length := by rw [Lib.size_eq, toB_data]
theorem toB_three (a b c : List UInt8) : toB a ++ toB b ++ toB c = toB (a ++ b ++ c) := by
  apply ByteArray.ext
  apply Array.toList_inj.1
  rw [bytes_append, bytes_append, toB_data, toB_data, toB_data, toB_data]
theorem itoa_any (x : Int) (n : Nat) (hx : x = n) (h : n < 100) (w : World) :
    Calls Tryz.prog 96 #[.int .i64 x] w fun e w' => e = .returned (.string (toB (Lib.itoa x))) ∧ w' = w := by
  subst hx
  rw [itoa_nat]
  exact Tryz.strconv_Itoa_small n h w
set_option maxHeartbeats 1000000 in
set_option maxRecDepth 100000 in
theorem span_any (a : Int) (n : Nat) (h0 : 0 ≤ a) (h1 : a < 99) (hn : n < 100) (w : World) :
    Calls Tryz.prog 116 #[.int .i64 a, .int .i64 n] w fun e w' => e = .returned (.string (toB (spanL a n))) ∧ w' = w := by
  have hs2 : (toB (Lib.itoa (n : Int))).size ≤ 20 := by
    rw [toB_size', itoa_nat]
    have := dec_len (n := n) (by omega)
    omega
  by_cases hp : 0 < n
  · have HE : Hid (spanL a n = Lib.itoa (a + 1) ++ [44] ++ Lib.itoa n) := by unfold Hid spanL; rw [if_pos hp]
    have t1 : decide ((0 : Int) < (n : Int)) = true := decide_eq_true (by omega)
    have t1n : decide (0 < n) = true := decide_eq_true hp
    have F1 : ∀ wx, Calls Tryz.prog 96 #[.int .i64 (a + 1)] wx fun e w' => e = .returned (.string (toB (Lib.itoa (a + 1)))) ∧ w' = wx := fun wx => itoa_any (a + 1) (a + 1).toNat (by omega) (by omega) wx
    have hs1 : (toB (Lib.itoa (a + 1))).size ≤ 20 := by
      obtain ⟨k, hk⟩ : ∃ k : Nat, a + 1 = k := ⟨(a + 1).toNat, by omega⟩
      rw [toB_size', hk, itoa_nat]
      have := dec_len (n := k) (by omega)
      omega
    clear hp
    go_enter Tryz.func116, Tryz.ntmps116
    go_wp2_with fail
    refine (F1 _).mono ?_
    rintro e w1 ⟨rfl, rfl⟩
    go_wp2_with fail
    refine (itoa_any n n rfl hn _).mono ?_
    rintro e w1 ⟨rfl, rfl⟩
    go_wp2_with fail
    go_ret
    exact ⟨by rw [HE.out]; exact congrArg (fun x => Ending.returned (Value.string x)) (toB_three _ _ _), rfl⟩
  · obtain rfl : n = 0 := by omega
    have HE : Hid (spanL a 0 = Lib.itoa a ++ [44] ++ Lib.itoa 0) := by unfold Hid spanL; rw [if_neg hp]; rfl
    have F1 : ∀ wx, Calls Tryz.prog 96 #[.int .i64 a] wx fun e w' => e = .returned (.string (toB (Lib.itoa a))) ∧ w' = wx := fun wx => itoa_any a a.toNat (by omega) (by omega) wx
    have F2 : ∀ wx, Calls Tryz.prog 96 #[.int .i64 0] wx fun e w' => e = .returned (.string (toB (Lib.itoa 0))) ∧ w' = wx := fun wx => itoa_any 0 0 rfl (by omega) wx
    have hs1 : (toB (Lib.itoa a)).size ≤ 20 := by
      obtain ⟨k, hk⟩ : ∃ k : Nat, a = k := ⟨a.toNat, by omega⟩
      rw [toB_size', hk, itoa_nat]
      have := dec_len (n := k) (by omega)
      omega
    have hs2 : (toB (Lib.itoa 0)).size ≤ 20 := hs2
    clear hp
    go_enter Tryz.func116, Tryz.ntmps116
    go_wp2_with fail
    refine (F1 _).mono ?_
    rintro e w1 ⟨rfl, rfl⟩
    go_wp2_with fail
    refine (F2 _).mono ?_
    rintro e w1 ⟨rfl, rfl⟩
    go_wp2_with fail
    go_ret
    exact ⟨by rw [HE.out]; exact congrArg (fun x => Ending.returned (Value.string x)) (toB_three _ _ _), rfl⟩

theorem chg_below {B : Nat} {w w' : World} (h : Below B w w') : Chg (From B) w w' :=
  ⟨h.os, h.tape, h.output, h.size, fun k hk hn => h.block k (by unfold From at hn; omega)⟩
theorem hunkR_head (h : Hunk) : textL (hunkL h) = headL h.old (oldN h.marks) h.new (newN h.marks) ++ [10] ++ textL (h.marks.map markL) := rfl
theorem textU_take {l : List Hunk} {k : Nat} {x : Hunk} (hx : l[k]? = some x) : textU (l.take (k + 1)) = textU (l.take k) ++ textL (hunkL x) := by
  unfold textU linesU
  rw [List.take_add_one, hx, Option.toList_some, List.flatMap_append, textL_app]
  simp
theorem textM_take {l : List Mark} {k : Nat} {x : Mark} (hx : l[k]? = some x) : textL ((l.take (k + 1)).map markL) = textL ((l.take k).map markL) ++ (signOf x :: (x.text.data.toList ++ [10])) := by
  rw [List.take_add_one, hx, Option.toList_some, List.map_append, textL_app]
  simp [textL, markL]
def EachH (x : Hunk) : Prop := scriptFault x.marks = 0 ∧ 0 ≤ x.old ∧ x.old ≤ 60 ∧ 0 ≤ x.new ∧ x.new ≤ 60 ∧ oldN x.marks ≤ 60 ∧ newN x.marks ≤ 60
theorem one_scr {h : Hunk} {fin more : Int} (e : oneFault h fin more = 0) : scriptFault h.marks = 0 := by
  unfold oneFault at e
  by_cases h1 : scriptFault h.marks ≠ 0
  · rw [if_pos h1] at e; exact absurd e h1
  · simpa using h1
theorem go_each : ∀ (l : List Hunk) (i : Nat) (fin more : Int), (hunksGo i fin more l).2 = 0 → ∀ x ∈ l, EachH x
  | [], _, _, _, _ => fun _ h => by cases h
  | h :: l, i, fin, more, e => by
    rw [hunksGo] at e
    by_cases h0 : oneFault h fin more = 0
    · rw [if_pos h0] at e
      obtain ⟨q1, q2, q3, q4, q5, q6, q7⟩ := one_ok h0
      intro x hx
      rcases List.mem_cons.1 hx with rfl | hx
      · exact ⟨one_scr h0, q2, by omega, q3, by omega, by omega, by omega⟩
      · exact go_each l _ _ _ e x hx
    · rw [if_neg h0] at e
      exact absurd e h0
theorem hunks_each {l : List Hunk} (h : (hunksFault l).2 = 0) : ∀ x ∈ l, EachH x := by
  unfold hunksFault at h
  by_cases hl : 60 < l.length
  · rw [if_pos hl] at h; cases h
  · rw [if_neg hl] at h
    exact go_each l _ _ _ h
theorem textU_mono {l : List Hunk} {k : Nat} : (textU (l.take k)).length ≤ (textU l).length := by
  conv => rhs; rw [← List.take_append_drop k l]
  unfold textU linesU
  rw [List.flatMap_append, textL_app, List.length_append]
  omega
theorem cells_toB (x : List UInt8) : Lib.strCells (toB x) = Lib.byteCells x := by rw [Lib.strCells_eq, toB_data]
theorem head_row (a b : Int) (x y : Nat) : toB [64, 64, 32, 45] ++ toB (spanL a x) ++ toB [32, 43] ++ toB (spanL b y) ++ toB [32, 64, 64, 10] = toB (headL a x b y ++ [10]) := by
  apply ByteArray.ext
  apply Array.toList_inj.1
  simp only [bytes_append, toB_data]
  unfold headL atAt endAt
  simp
theorem mark_cells {m : Mark} (h : SignOk m) : [.int .u8 m.sign] ++ Lib.strCells (m.text ++ toB [10]) = Lib.byteCells (signOf m :: (m.text.data.toList ++ [10])) := by
  rw [Lib.strCells_eq, bytes_append, toB_data]
  unfold signOf
  rcases h with e | e | e <;> rw [e] <;> rfl
theorem marks_take_len {ms : List Mark} {q : Nat} (h : ∀ m ∈ ms, markFault m = 0) (hl : ms.length ≤ 120) : (textL ((ms.take q).map markL)).length ≤ 82 * 120 := by
  have : ∀ (k : List Mark), (∀ m ∈ k, markFault m = 0) → (textL (k.map markL)).length ≤ 82 * k.length := fun k hk => by
    induction k with
    | nil => simp [textL]
    | cons m k ih =>
      obtain ⟨-, -, q3⟩ := mark_ok (hk m (List.mem_cons_self ..))
      have := ih fun x hx => hk x (List.mem_cons_of_mem _ hx)
      have e : (textL ((m :: k).map markL)).length = m.text.size + 2 + (textL (k.map markL)).length := by
        show (markL m ++ [10] ++ textL (k.map markL)).length = _
        unfold markL
        simp only [List.length_append, List.length_cons, List.length_nil, Array.length_toList, ByteArray.size_data]
      rw [e, List.length_cons]; omega
  have h1 := this (ms.take q) (fun m hm => h m (List.mem_of_mem_take hm))
  rw [List.length_take] at h1
  omega
set_option maxHeartbeats 1000000 in
set_option maxRecDepth 100000 in
theorem write_any (B b : Nat) (bs : List Value) (l : List Hunk) (v : Value) (w : World) (h : Rdv w (From B) v l) (hI : IsB B b bs w) (hz : (hunksFault l).2 = 0) (hlen : bs.length ≤ 1000000000) (hBw : B ≤ w.heap.size) :
    Calls Tryz.prog 72 #[.pointer (some ⟨b, 0, none⟩), v] w fun e w' => e = .returned (.tuple #[]) ∧ IsB B b (bs ++ Lib.byteCells (textU l)) w' ∧ Below B w w' := by
  obtain ⟨a, cap, rfl, h1, h2, h3⟩ := rdv_slice h
  unfold maxLen at h2
  have hTL := Lib.hid (hunks_ok hz).2.2
  have hH := Lib.hid (hunks_each hz)
  clear hz
  go_enter Tryz.func72, Tryz.ntmps72
  go_wp2_with fail
  go_loopw [12] (fun i wr => ∃ k : Nat, k ≤ l.length ∧ i = .int .i64 k ∧ IsB B b (bs ++ Lib.byteCells (textU (l.take k))) wr ∧ Below B w wr) (fun i _ => l.length - (intOf i).toNat)
  case atStart => exact ⟨0, Nat.zero_le _, rfl, by simpa [textU, textL, linesU, Lib.byteCells] using hI, Below.refl _ _⟩
  case round =>
    clear hI
    obtain ⟨k, hk, rfl, hI, hb⟩ := hrel
    rename World => wr
    have hbs := hb.size
    by_cases hlt : k < l.length
    · obtain ⟨x, hx⟩ : ∃ x, l[k]? = some x := ⟨l[k], by simp [hlt]⟩
      obtain ⟨b', off, mv, rfl, hnb, -, c0, c1, c2, hmv⟩ := elems_hunk h3 hx
      have hcb := chg_below hb
      have hbne : wr.heap.size ≠ b := by
        have : b < wr.heap.size := hI.elim (fun q => q.lt) (fun q => q.lt)
        omega
      obtain ⟨e1, e2, e3, e4, e5, e6, e7⟩ := hH.out x (List.mem_of_getElem? hx)
      have E1 := Lib.hid e1
      have hml := scriptFault_len e1
      have HT := Lib.hid (textU_take hx)
      have hTk := @textU_mono l k
      have hTk1 := @textU_mono l (k + 1)
      have hTLo := hTL.out
      obtain ⟨ma, mc, rfl, -, -, hme⟩ := rdv_slice hmv
      have c0 := hcb.cell c0 hnb
      have c1 := hcb.cell c1 hnb
      have c2 := hcb.cell c2 hnb
      have hmr : Rdv wr (From B) (.slice ma x.marks.length mc) x.marks := hmv.keep hcb (fun _ _ h => h) (fun _ _ h => h)
      have hA : Chg Never wr (wr.alloc (.cells #[.int .i64 x.old, .int .i64 x.new, .slice ma x.marks.length mc] 129)) := (Chg.refl Never wr).alloc _
      have hbox := Blk3.new wr 129 (.int .i64 x.old) (.int .i64 x.new) (.slice ma x.marks.length mc)
      obtain ⟨g0, g1, g2⟩ := hbox.cell
      have hIA := bld_keep hI hA
      have hmA := hmr.never hA
      have hbA : Below B w (wr.alloc (.cells #[.int .i64 x.old, .int .i64 x.new, .slice ma x.marks.length mc] 129)) := hb.alloc (by omega) _
      clear hx h3 h hI hmr hmv e1
      go_wp2_with fail
      clear c0 c1 c2
      generalize wr.alloc (.cells #[.int .i64 x.old, .int .i64 x.new, .slice ma x.marks.length mc] 129) = wA at hA hbox g0 g1 g2 hIA hmA hbA ⊢
      refine (size_any x _ _ (hmA.sub (fun _ _ h => h.elim))).mono ?_
      rintro e w2 ⟨rfl, hc2⟩
      have g0 := hc2.cellNever g0
      have g1 := hc2.cellNever g1
      have g2 := hc2.cellNever g2
      have hI2 := bld_keep hIA hc2
      have hm2 := hmA.never hc2
      have hb2 := hbA.trans (hc2.never.mono (Nat.le_trans hBw hbA.size))
      have hwsz := hb2.size
      have hl1 : (spanL x.old (oldN x.marks)).length ≤ 7 := span_len e2 (by omega) (by omega)
      have hl2 : (spanL x.new (newN x.marks)).length ≤ 7 := span_len e4 (by omega) (by omega)
      have FS1 : ∀ wx, Calls Tryz.prog 116 #[.int .i64 x.old, .int .i64 (oldN x.marks : Nat)] wx fun e w' => e = .returned (.string (toB (spanL x.old (oldN x.marks)))) ∧ w' = wx := fun wx => span_any _ _ e2 (by omega) (by omega) wx
      have FS2 : ∀ wx, Calls Tryz.prog 116 #[.int .i64 x.new, .int .i64 (newN x.marks : Nat)] wx fun e w' => e = .returned (.string (toB (spanL x.new (newN x.marks)))) ∧ w' = wx := fun wx => span_any _ _ e4 (by omega) (by omega) wx
      have HR := Lib.hid (head_row x.old x.new (oldN x.marks) (newN x.marks))
      have HUL := Lib.hid (hunkR_head x)
      obtain ⟨S1, hS1⟩ : ∃ S1, toB (spanL x.old (oldN x.marks)) = S1 := ⟨_, rfl⟩
      obtain ⟨S2, hS2⟩ : ∃ S2, toB (spanL x.new (newN x.marks)) = S2 := ⟨_, rfl⟩
      obtain ⟨HD, hHD⟩ : ∃ HD, headL x.old (oldN x.marks) x.new (newN x.marks) ++ [10] = HD := ⟨_, rfl⟩
      have hz1 : S1.size ≤ 7 := by rw [← hS1, toB_size']; exact hl1
      have hz2 : S2.size ≤ 7 := by rw [← hS2, toB_size']; exact hl2
      have hbl : (bs ++ Lib.byteCells (textU (l.take k))).length ≤ 1000400000 := by rw [List.length_append, Lib.byteCells_length]; omega
      rw [hS1, hS2, hHD] at HR
      rw [hHD] at HUL
      rw [hS1] at FS1
      rw [hS2] at FS2
      obtain ⟨bs1, hbs1⟩ : ∃ bs1, bs ++ Lib.byteCells (textU (l.take k)) = bs1 := ⟨_, rfl⟩
      rw [hbs1] at hI2 hbl
      have HB1 := Lib.hid hbs1
      clear hbs1
      clear hS1 hS2 hl1 hl2 hIA hmA hbA hA hb hH hTL hTk hTk1
      go_wp2_with fail
      have n1 : ¬ (9223372036854775807 < 4 + S1.size) := by omega
      have n2 : ¬ (9223372036854775807 < 4 + S1.size + 2) := by omega
      have n3 : ¬ (9223372036854775807 < 4 + S1.size + 2 + S2.size) := by omega
      have n4 : ¬ (9223372036854775807 < 4 + S1.size + 2 + S2.size + 4) := by omega
      refine wp_region_still_tail 13 (by kernel_rfl) (by kernel_rfl) ?_
      simp only [List.take_succ_cons, List.take_zero, List.drop_succ_cons, List.drop_zero]
      change wpStill _ _ w2.drew _ _ _
      still_step
      still_step
      still_step
      still_step
      refine wpStill_step (fun K hK => ?_)
      go_simp
      refine ⟨.string S1, FS1 _, ?_⟩
      refine hK _ ?_
      clear hK K
      still_step
      still_step
      still_step
      still_step
      still_step
      refine wpStill_step (fun K hK => ?_)
      go_simp
      refine ⟨.string S2, FS2 _, ?_⟩
      refine hK _ ?_
      clear hK K
      still_step
      still_step
      refine wpStill_nil ?_
      change wpList _ _ _ _ _ w2.drew
      have hbox2 := hbox.keep hc2 (fun h => h)
      have hcd : Chg Never w2 w2.drew := (Chg.refl Never w2).drew
      have hbox3 := hbox2.keep hcd (fun h => h)
      have hI3 := bld_keep hI2 hcd
      have hm3 := hm2.never hcd
      have hb3 := hb2.trans (hcd.never.mono (Nat.le_trans hBw hb2.size))
      have hw3s : B ≤ w2.drew.heap.size := Nat.le_trans hBw hb3.size
      have hHl : HD.length ≤ 24 := by
        have := head_len ⟨e2, by omega, e4, by omega, by omega, by omega, fun m hm => (mark_ok (marks_ok E1.out m hm)).1⟩
        rw [← hHD, List.length_append]; simp; omega
      generalize w2.drew = w3 at hI3 hm3 hb3 hw3s hbox3
      clear hcd hI2 hm2 hb2 g0 g1 g2 hHD n1 n2 n3 n4 FS1 FS2 hbox hbox2 hc2 hwsz
      go_wp2_with fail
      refine (bldk_string B b bs1 _ _ hI3 (by rw [ByteArray.size_append, ByteArray.size_append, ByteArray.size_append, ByteArray.size_append]; show _ + (4 + S1.size + 2 + S2.size + 4) ≤ _; omega) hw3s).mono ?_
      rintro e w4 ⟨rfl, hI4, b4, k4⟩
      have hI4 : BAt B b (bs1 ++ Lib.byteCells HD) w4 := by rw [← cells_toB, ← HR.out]; exact hI4
      have hb4 := hb3.trans b4
      have hc4 := chg_below b4
      have hm4 : Rdv w4 (From B) (.slice ma x.marks.length mc) x.marks := hm3.keep hc4 (fun _ _ h => h) (fun _ _ h => h)
      obtain ⟨-, -, g2⟩ := (k4.blk3 hbox3 hbne (by decide)).cell
      have hbl2 : (bs1 ++ Lib.byteCells HD).length ≤ 1000500000 := by rw [List.length_append, Lib.byteCells_length]; omega
      obtain ⟨bs2, hbs2⟩ : ∃ bs2, bs1 ++ Lib.byteCells HD = bs2 := ⟨_, rfl⟩
      rw [hbs2] at hI4 hbl2
      have HB2 := Lib.hid hbs2
      clear hI3 hm3 hb3 b4 hc4 HR hbs2 hz1 hz2 k4 hbox3
      have hme4 := (rdv_slice hm4)
      obtain ⟨ma', mc', hq, -, -, hme⟩ := hme4
      injection hq with hq1 _ hq2
      subst hq1 hq2
      have hMK := Lib.hid (marks_ok E1.out)
      have hw4s := Nat.le_trans hBw hb4.size
      have hst0 : bs2 ++ Lib.byteCells (textL ((x.marks.take 0).map markL)) = bs2 := by simp [textL, Lib.byteCells]
      unfold maxLen at *
      go_wp2_with fail
      clear g2
      go_loopw [38] (fun i wi => ∃ q : Nat, q ≤ x.marks.length ∧ i = .int .i64 q ∧ IsB B b (bs2 ++ Lib.byteCells (textL ((x.marks.take q).map markL))) wi ∧ Below B w4 wi) (fun i _ => x.marks.length - (intOf i).toNat)
      case atStart => exact ⟨0, Nat.zero_le _, rfl, by rw [hst0]; exact .inr hI4, Below.refl _ _⟩
      case round =>
        clear hI4
        obtain ⟨q, hq, rfl, hJ, hbi⟩ := hrel
        rename World => wi
        by_cases hql : q < x.marks.length
        · obtain ⟨y, hy⟩ : ∃ y, x.marks[q]? = some y := ⟨x.marks[q], by simp [hql]⟩
          obtain ⟨yb, yoff, rfl, hynb, -, d0, d1, s0, s1, hys⟩ := elems_mark hme hy
          have hci := chg_below hbi
          have d0 := hci.cell d0 hynb
          have d1 := hci.cell d1 hynb
          obtain ⟨m1, m2, m3⟩ := mark_ok (hMK.out y (List.mem_of_getElem? hy))
          have HMT := Lib.hid (textM_take hy)
          have hA : Chg Never wi (wi.alloc (.cells #[.int .u8 y.sign, .string y.text] 126)) := (Chg.refl Never wi).alloc _
          have hbx := Blk2.new wi 126 (.int .u8 y.sign) (.string y.text)
          have hbn : wi.heap.size ≠ b := by
            have : b < wi.heap.size := hJ.elim (fun q => q.lt) (fun q => q.lt)
            omega
          obtain ⟨f0, f1⟩ := hbx.cell
          have hJA := bld_keep hJ hA
          have hbA := hbi.trans (hA.never.mono (Nat.le_trans hw4s hbi.size))
          have hsA := Nat.le_trans hw4s hbA.size
          have hmt : (textL ((x.marks.take q).map markL)).length ≤ 82 * 120 := marks_take_len hMK.out hml
          have hbl3 : (bs2 ++ Lib.byteCells (textL ((x.marks.take q).map markL))).length ≤ 1000600000 := by rw [List.length_append, Lib.byteCells_length]; omega
          have HJ2 : Hid (bs2 ++ Lib.byteCells (textL ((x.marks.take q).map markL)) ++ [.int .u8 y.sign] ++ Lib.strCells (y.text ++ toB [10]) = bs2 ++ Lib.byteCells (textL ((x.marks.take (q + 1)).map markL))) := by
            rw [Hid, HMT.out, Lib.byteCells_append, List.append_assoc, List.append_assoc, mark_cells m1]
          generalize bs2 ++ Lib.byteCells (textL ((x.marks.take q).map markL)) = bs3 at hJA hbl3 HJ2
          clear hy hJ hmt
          go_wp2_with fail
          clear d0 d1
          refine (bldk_byte1 B b bs3 y.sign _ hJA (by omega) hsA).mono ?_
          rintro e w5 ⟨rfl, hJ5, b5, k5⟩
          obtain ⟨f0, f1⟩ := (k5.blk2 hbx hbn (by decide)).cell
          have hb5 := hbA.trans b5
          clear hJA hbx b5 k5 hA
          go_wp2_with fail
          refine (bldk_string B b _ _ _ (.inr hJ5) (by rw [List.length_append, ByteArray.size_append]; show bs3.length + 1 + (y.text.size + 1) ≤ _; omega) (Nat.le_trans hw4s hb5.size)).mono ?_
          rintro e w6 ⟨rfl, hJ6, b6, -⟩
          go_wp2_with fail
          go_roundw
          case rel => exact ⟨q + 1, by omega, by go_num, .inr (by rw [← HJ2.out]; exact hJ6), hb5.trans b6⟩
          case measure => simp [intOf]; omega
        · rw [List.take_of_length_le (by omega)] at hJ
          have hfin : IsB B b (bs ++ Lib.byteCells (textU (l.take (k + 1)))) wi := by
            rw [HT.out, Lib.byteCells_append, ← List.append_assoc, HB1.out, HUL.out, Lib.byteCells_append, ← List.append_assoc, HB2.out]
            exact hJ
          have hbf := hb4.trans hbi
          clear hJ hbi hme hMK
          go_wp2_with fail
          go_roundw
          case rel => exact ⟨k + 1, by omega, by go_num, hfin, hbf⟩
          case measure => simp [intOf]; omega
    · rw [List.take_of_length_le (by omega)] at hI
      go_wp2_with fail
      go_end0
      exact ⟨rfl, hI, hb⟩
end Go.Proofs.YtjiaidchcldocaaGreatDoor
namespace Go.Proofs.YtjiaidchcldocaaGreatDoor
open Go.RowKit

theorem titledB_eq (s : List UInt8) : titledB s = (!(s == []) && decide (s.length ≤ 20) && s.all okChar) := rfl

set_option maxHeartbeats 1000000 in
set_option maxRecDepth 100000 in
theorem titled_any (s : ByteArray) (w : World) (hs : s.size ≤ maxLen) :
    Calls Tryz.prog 43 #[.string s] w fun e w' => e = .returned (.bool (titledB s.data.toList)) ∧ w = w' := by
  unfold maxLen at hs
  by_cases h0 : s.size = 0
  · have e0 : s.data.toList = [] := List.eq_nil_of_length_eq_zero (by rw [← Lib.size_eq]; exact h0)
    have HW : Hid (titledB s.data.toList = false) := by rw [Hid, e0]; rfl
    have te : s.toList.isEmpty = true := by rw [Lib.toList_data, e0]; rfl
    clear e0
    have tl : decide ((s.size : Int) < 1) = true := decide_eq_true (by omega)
    go_enter Tryz.func43, Tryz.ntmps43
    go_wp2_with fail
    go_ret
    exact ⟨by rw [HW.out]; rfl, rfl⟩
  · by_cases h20 : 20 < s.size
    · have HW : Hid (titledB s.data.toList = false) := by
        rw [Hid, titledB_eq, decide_eq_false (by rw [← Lib.size_eq]; omega : ¬ s.data.toList.length ≤ 20)]; simp
      have te : s.toList.isEmpty = false := by
        rw [Lib.toList_data]
        cases e : s.data.toList.isEmpty with
        | false => rfl
        | true => exact absurd (by rw [Lib.size_eq, List.isEmpty_iff.1 e]; rfl) h0
      have tl : decide ((s.size : Int) < 1) = false := decide_eq_false (by omega)
      have t4 : decide ((20 : Int) < (s.size : Int)) = true := decide_eq_true (by omega)
      go_enter Tryz.func43, Tryz.ntmps43
      go_wp2_with fail
      go_ret
      exact ⟨by rw [HW.out]; rfl, rfl⟩
    · have HW : Hid (titledB s.data.toList = s.data.toList.all okChar) := by
        rw [Hid, titledB_eq, decide_eq_true (by rw [← Lib.size_eq]; omega : s.data.toList.length ≤ 20)]
        have : (s.data.toList == []) = false := by
          simp only [beq_eq_false_iff_ne, ne_eq]
          intro e
          exact h0 (by rw [Lib.size_eq, e]; rfl)
        rw [this]; simp
      have te : s.toList.isEmpty = false := by
        rw [Lib.toList_data]
        cases e : s.data.toList.isEmpty with
        | false => rfl
        | true => exact absurd (by rw [Lib.size_eq, List.isEmpty_iff.1 e]; rfl) h0
      have tl : decide ((s.size : Int) < 1) = false := decide_eq_false (by omega)
      have t4 : decide ((20 : Int) < (s.size : Int)) = false := decide_eq_false (by omega)
      go_enter Tryz.func43, Tryz.ntmps43
      go_wp2_with fail
      go_loop [13] (fun i => ∃ k : Nat, k ≤ s.size ∧ i = .int .i64 k ∧ Hid ((s.data.toList.drop k).all okChar = s.data.toList.all okChar)) (fun i => s.size - (intOf i).toNat)
      case atStart => exact ⟨0, Nat.zero_le _, rfl, rfl⟩
      case round =>
        obtain ⟨k, hk, rfl, hf⟩ := hrel
        by_cases hlt : k < s.size
        · have hd : Hid (s.data.toList.drop k = s[k] :: s.data.toList.drop (k + 1)) := by
            rw [Hid]
            exact drop_eq (by rw [Array.getElem?_toList, Array.getElem?_eq_getElem hlt]; rfl)
          obtain ⟨c, hc⟩ : ∃ c, s[k] = c := ⟨_, rfl⟩
          rw [hc] at hd
          by_cases b1 : c.toNat < 32
          · have HF : Hid (s.data.toList.all okChar = false) := by
              rw [Hid, ← hf.out, hd.out, List.all_cons, okChar, decide_eq_false (by omega : ¬ 32 ≤ c.toNat)]; rfl
            have u1 : decide ((c.toNat : Int) < 32) = true := decide_eq_true (by omega)
            clear hf hd b1
            go_wp2_with fail
            go_ret
            exact ⟨by rw [HW.out, HF.out]; rfl, rfl⟩
          · by_cases b2 : 126 < c.toNat
            · have HF : Hid (s.data.toList.all okChar = false) := by
                rw [Hid, ← hf.out, hd.out, List.all_cons, okChar, decide_eq_false (by omega : ¬ c.toNat ≤ 126), Bool.and_false]; rfl
              have u1 : decide ((c.toNat : Int) < 32) = false := decide_eq_false (by omega)
              have u2 : decide ((126 : Int) < (c.toNat : Int)) = true := decide_eq_true (by omega)
              clear hf hd b1 b2
              go_wp2_with fail
              go_ret
              exact ⟨by rw [HW.out, HF.out]; rfl, rfl⟩
            · have HF : Hid ((s.data.toList.drop (k + 1)).all okChar = s.data.toList.all okChar) := by
                rw [Hid, ← hf.out, hd.out, List.all_cons, okChar, decide_eq_true (by omega : 32 ≤ c.toNat), decide_eq_true (by omega : c.toNat ≤ 126)]; rfl
              have u1 : decide ((c.toNat : Int) < 32) = false := decide_eq_false (by omega)
              have u2 : decide ((126 : Int) < (c.toNat : Int)) = false := decide_eq_false (by omega)
              clear hf hd b1 b2
              go_wp2_with fail
              go_round
              case rel => exact ⟨k + 1, by omega, by go_num, HF.out⟩
              case measure => simp [intOf]; omega
        · have HF : Hid (s.data.toList.all okChar = true) := by
            rw [Hid, ← hf.out, List.drop_of_length_le (by rw [← Lib.size_eq]; omega)]; rfl
          go_wp2_with fail
          go_ret
          exact ⟨by rw [HW.out, HF.out]; rfl, rfl⟩
set_option maxHeartbeats 1000000 in
set_option maxRecDepth 100000 in
theorem ref_title_any (s : ByteArray) (w : World) (hs : s.size ≤ maxLen) :
    Calls Tryz.prog 48 #[.string s, .int .i64 20] w fun e w' => e = .returned (.bool (titledB s.data.toList)) ∧ w = w' := by
  unfold maxLen at hs
  by_cases h0 : s.size = 0
  · have e0 : s.data.toList = [] := List.eq_nil_of_length_eq_zero (by rw [← Lib.size_eq]; exact h0)
    have HW : Hid (titledB s.data.toList = false) := by rw [Hid, e0]; rfl
    have te : s.toList.isEmpty = true := by rw [Lib.toList_data, e0]; rfl
    clear e0
    have tl : decide ((s.size : Int) < 1) = true := decide_eq_true (by omega)
    go_enter Tryz.func48, Tryz.ntmps48
    go_wp2_with fail
    go_ret
    exact ⟨by rw [HW.out]; rfl, rfl⟩
  · by_cases h20 : 20 < s.size
    · have HW : Hid (titledB s.data.toList = false) := by
        rw [Hid, titledB_eq, decide_eq_false (by rw [← Lib.size_eq]; omega : ¬ s.data.toList.length ≤ 20)]; simp
      have te : s.toList.isEmpty = false := by
        rw [Lib.toList_data]
        cases e : s.data.toList.isEmpty with
        | false => rfl
        | true => exact absurd (by rw [Lib.size_eq, List.isEmpty_iff.1 e]; rfl) h0
      have tl : decide ((s.size : Int) < 1) = false := decide_eq_false (by omega)
      have t4 : decide ((20 : Int) < (s.size : Int)) = true := decide_eq_true (by omega)
      go_enter Tryz.func48, Tryz.ntmps48
      go_wp2_with fail
      go_ret
      exact ⟨by rw [HW.out]; rfl, rfl⟩
    · have HW : Hid (titledB s.data.toList = s.data.toList.all okChar) := by
        rw [Hid, titledB_eq, decide_eq_true (by rw [← Lib.size_eq]; omega : s.data.toList.length ≤ 20)]
        have : (s.data.toList == []) = false := by
          simp only [beq_eq_false_iff_ne, ne_eq]
          intro e
          exact h0 (by rw [Lib.size_eq, e]; rfl)
        rw [this]; simp
      have te : s.toList.isEmpty = false := by
        rw [Lib.toList_data]
        cases e : s.data.toList.isEmpty with
        | false => rfl
        | true => exact absurd (by rw [Lib.size_eq, List.isEmpty_iff.1 e]; rfl) h0
      have tl : decide ((s.size : Int) < 1) = false := decide_eq_false (by omega)
      have t4 : decide ((20 : Int) < (s.size : Int)) = false := decide_eq_false (by omega)
      go_enter Tryz.func48, Tryz.ntmps48
      go_wp2_with fail
      go_loop [5] (fun i => ∃ k : Nat, k ≤ s.size ∧ i = .int .i64 k ∧ Hid ((s.data.toList.drop k).all okChar = s.data.toList.all okChar)) (fun i => s.size - (intOf i).toNat)
      case atStart => exact ⟨0, Nat.zero_le _, rfl, rfl⟩
      case round =>
        obtain ⟨k, hk, rfl, hf⟩ := hrel
        by_cases hlt : k < s.size
        · have hd : Hid (s.data.toList.drop k = s[k] :: s.data.toList.drop (k + 1)) := by
            rw [Hid]
            exact drop_eq (by rw [Array.getElem?_toList, Array.getElem?_eq_getElem hlt]; rfl)
          obtain ⟨c, hc⟩ : ∃ c, s[k] = c := ⟨_, rfl⟩
          rw [hc] at hd
          by_cases b1 : c.toNat < 32
          · have HF : Hid (s.data.toList.all okChar = false) := by
              rw [Hid, ← hf.out, hd.out, List.all_cons, okChar, decide_eq_false (by omega : ¬ 32 ≤ c.toNat)]; rfl
            have u1 : decide ((c.toNat : Int) < 32) = true := decide_eq_true (by omega)
            clear hf hd b1
            go_wp2_with fail
            go_ret
            exact ⟨by rw [HW.out, HF.out]; rfl, rfl⟩
          · by_cases b2 : 126 < c.toNat
            · have HF : Hid (s.data.toList.all okChar = false) := by
                rw [Hid, ← hf.out, hd.out, List.all_cons, okChar, decide_eq_false (by omega : ¬ c.toNat ≤ 126), Bool.and_false]; rfl
              have u1 : decide ((c.toNat : Int) < 32) = false := decide_eq_false (by omega)
              have u2 : decide ((126 : Int) < (c.toNat : Int)) = true := decide_eq_true (by omega)
              clear hf hd b1 b2
              go_wp2_with fail
              go_ret
              exact ⟨by rw [HW.out, HF.out]; rfl, rfl⟩
            · have HF : Hid ((s.data.toList.drop (k + 1)).all okChar = s.data.toList.all okChar) := by
                rw [Hid, ← hf.out, hd.out, List.all_cons, okChar, decide_eq_true (by omega : 32 ≤ c.toNat), decide_eq_true (by omega : c.toNat ≤ 126)]; rfl
              have u1 : decide ((c.toNat : Int) < 32) = false := decide_eq_false (by omega)
              have u2 : decide ((126 : Int) < (c.toNat : Int)) = false := decide_eq_false (by omega)
              clear hf hd b1 b2
              go_wp2_with fail
              go_round
              case rel => exact ⟨k + 1, by omega, by go_num, HF.out⟩
              case measure => simp [intOf]; omega
        · have HF : Hid (s.data.toList.all okChar = true) := by
            rw [Hid, ← hf.out, List.drop_of_length_le (by rw [← Lib.size_eq]; omega)]; rfl
          go_wp2_with fail
          go_ret
          exact ⟨by rw [HW.out, HF.out]; rfl, rfl⟩
abbrev partV (t : ByteArray) (a b : Int) (v : Value) : Value := .agg #[.string t, .int .i64 a, .int .i64 b, v]
theorem box1_part (w : World) (T : TypeId) (t : ByteArray) (a b : Int) (v : Value) (W : World) (hW : W = w.alloc (.cells #[.string t, .int .i64 a, .int .i64 b, v] T)) :
    Chg Never w W ∧ W.cell? ⟨w.heap.size, 0, none⟩ = some (.string t) ∧ W.cell? ⟨w.heap.size, 1, none⟩ = some (.int .i64 a) ∧ W.cell? ⟨w.heap.size, 2, none⟩ = some (.int .i64 b) ∧ W.cell? ⟨w.heap.size, 3, none⟩ = some v := by
  subst hW
  have n := heap_alloc_new w (.cells #[.string t, .int .i64 a, .int .i64 b, v] T)
  refine ⟨(Chg.refl Never w).alloc _, ?_, ?_, ?_, ?_⟩ <;> (simp only [World.cell?]; rw [n]; rfl)
theorem subj_str (a b : Nat) (t : ByteArray) : (⟨#[91, 80, 65, 84, 67, 72, 32]⟩ : ByteArray) ++ toB (Lib.decDigits a) ++ ⟨#[47]⟩ ++ toB (Lib.decDigits b) ++ ⟨#[93, 32]⟩ ++ t = toB (subjL a b t.data.toList) := by
  apply ByteArray.ext
  apply Array.toList_inj.1
  simp only [bytes_append, toB_data]
  unfold subjL patW
  simp
theorem id_str (a b : Nat) : toB (Lib.decDigits a) ++ ⟨#[46]⟩ ++ toB (Lib.decDigits b) = toB (idL a b) := by
  apply ByteArray.ext
  apply Array.toList_inj.1
  simp only [bytes_append, toB_data]
  unfold idL
  rfl
theorem dig_small : ∀ n, n ≤ 8 → (Lib.decDigits n).length = 1 := by decide +kernel
set_option maxHeartbeats 1000000 in
set_option maxRecDepth 100000 in
theorem subject_any (t : ByteArray) (a b : Nat) (v : Value) (w : World) (ha : a ≤ 8) (hb : b ≤ 8) (ht : t.size ≤ 1000000000) (hv : v.oneCell' = true) :
    Calls Tryz.prog 44 #[partV t a b v] w fun e w' => e = .returned (.string (toB (subjL a b t.data.toList))) ∧ Chg Never w w' := by
  obtain ⟨hA, c0, c1, c2, -⟩ := box1_part w 97 t a b v _ rfl
  have F1 : ∀ wx, Calls Tryz.prog 96 #[.int .i64 a] wx fun e w' => e = .returned (.string (toB (Lib.decDigits a))) ∧ w' = wx := fun wx => by
    have := itoa_any (a : Int) a rfl (by omega) wx
    rw [itoa_nat] at this
    exact this
  have F2 : ∀ wx, Calls Tryz.prog 96 #[.int .i64 b] wx fun e w' => e = .returned (.string (toB (Lib.decDigits b))) ∧ w' = wx := fun wx => by
    have := itoa_any (b : Int) b rfl (by omega) wx
    rw [itoa_nat] at this
    exact this
  have z1 : (toB (Lib.decDigits a)).size = 1 := by rw [toB_size', dig_small a ha]
  have z2 : (toB (Lib.decDigits b)).size = 1 := by rw [toB_size', dig_small b hb]
  have HS := Lib.hid (subj_str a b t)
  obtain ⟨D1, hD1⟩ : ∃ D, toB (Lib.decDigits a) = D := ⟨_, rfl⟩
  obtain ⟨D2, hD2⟩ : ∃ D, toB (Lib.decDigits b) = D := ⟨_, rfl⟩
  rw [hD1] at F1 z1 HS
  rw [hD2] at F2 z2 HS
  clear hD1 hD2
  have n1 : ¬ (9223372036854775807 < 7 + D1.size) := by omega
  have n2 : ¬ (9223372036854775807 < 7 + D1.size + 1) := by omega
  have n3 : ¬ (9223372036854775807 < 7 + D1.size + 1 + D2.size) := by omega
  have n4 : ¬ (9223372036854775807 < 7 + D1.size + 1 + D2.size + 2) := by omega
  have n5 : ¬ (9223372036854775807 < 7 + D1.size + 1 + D2.size + 2 + t.size) := by omega
  have n6 : ¬ (9223372036854775807 < 12 + t.size) := by omega
  go_enter Tryz.func44, Tryz.ntmps44
  go_wp2_with fail
  generalize w.alloc (.cells #[.string t, .int .i64 a, .int .i64 b, v] 97) = wA at hA c0 c1 c2 ⊢
  generalize w.heap.size = B at c0 c1 c2 ⊢
  refine wp_region_held_drew (S := fun w' => Chg Never wA w' ∧ w'.cell? ⟨B, 0, none⟩ = some (.string t) ∧ w'.cell? ⟨B, 1, none⟩ = some (.int .i64 a) ∧ w'.cell? ⟨B, 2, none⟩ = some (.int .i64 b)) (by kernel_rfl) ⟨(Chg.refl Never wA).drew, c0, c1, c2⟩ (fun hH => ?_)
  refine' tk 0 ?_
  refine' tk 1 ?_
  refine' tk 5 ?_
  refine' tk 6 ?_
  refine' tk 10 ?_
  refine' tk 11 ?_
  refine wpAnyH_ready (rs := [2]) (by kernel_rfl) (by simp) ?_
  refine AllReadyH.cons rfl (fun K hK => ?_) AllReadyH.nil
  go_simp
  (go_at_call 96; refine (F1 _).mono ?_; rintro e wq ⟨rfl, rfl⟩)
  try go_wp2_with fail
  refine hK.out _ _ ?_ (fun hH => ?_)
  · assumption
  clear hK K
  try simp only [Act.put, List.setIfInBounds_toArray, List.set_cons_zero, List.set_cons_succ]
  refine' tk 3 ?_
  refine' tk 4 ?_
  refine wpAnyH_ready (rs := [7]) (by kernel_rfl) (by simp) ?_
  refine AllReadyH.cons rfl (fun K hK => ?_) AllReadyH.nil
  go_simp
  (go_at_call 96; refine (F2 _).mono ?_; rintro e wq ⟨rfl, rfl⟩)
  try go_wp2_with fail
  refine hK.out _ _ ?_ (fun hH => ?_)
  · assumption
  clear hK K
  try simp only [Act.put, List.setIfInBounds_toArray, List.set_cons_zero, List.set_cons_succ]
  refine' tk 8 ?_
  refine' tk 9 ?_
  refine' tk 12 ?_
  refine' tk 13 ?_
  refine wpAnyH_done (by kernel_rfl) ?_ _
  rename (Chg Never wA _ ∧ _) => hF
  have hcF := hA.trans hF.1
  clear hF
  go_wp2_with fail
  go_ret
  exact ⟨by rw [← HS.out]; rfl, hcF⟩
set_option maxHeartbeats 1000000 in
set_option maxRecDepth 100000 in
theorem partid_any (t : ByteArray) (a b : Nat) (v : Value) (w : World) (ha : a ≤ 8) (hb : b ≤ 8) :
    Calls Tryz.prog 45 #[partV t a b v] w fun e w' => e = .returned (.string (toB (idL a b))) ∧ Chg Never w w' := by
  obtain ⟨hA, -, c1, c2, -⟩ := box1_part w 97 t a b v _ rfl
  have F1 : ∀ wx, Calls Tryz.prog 96 #[.int .i64 a] wx fun e w' => e = .returned (.string (toB (Lib.decDigits a))) ∧ w' = wx := fun wx => by
    have := itoa_any (a : Int) a rfl (by omega) wx
    rw [itoa_nat] at this
    exact this
  have F2 : ∀ wx, Calls Tryz.prog 96 #[.int .i64 b] wx fun e w' => e = .returned (.string (toB (Lib.decDigits b))) ∧ w' = wx := fun wx => by
    have := itoa_any (b : Int) b rfl (by omega) wx
    rw [itoa_nat] at this
    exact this
  have z1 : (toB (Lib.decDigits a)).size = 1 := by rw [toB_size', dig_small a ha]
  have z2 : (toB (Lib.decDigits b)).size = 1 := by rw [toB_size', dig_small b hb]
  have HS := Lib.hid (id_str a b)
  obtain ⟨D1, hD1⟩ : ∃ D, toB (Lib.decDigits a) = D := ⟨_, rfl⟩
  obtain ⟨D2, hD2⟩ : ∃ D, toB (Lib.decDigits b) = D := ⟨_, rfl⟩
  rw [hD1] at F1 z1 HS
  rw [hD2] at F2 z2 HS
  clear hD1 hD2
  have n1 : ¬ (9223372036854775807 < D1.size + 1) := by omega
  have n2 : ¬ (9223372036854775807 < D1.size + 1 + D2.size) := by omega
  go_enter Tryz.func45, Tryz.ntmps45
  go_wp2_with fail
  generalize w.alloc (.cells #[.string t, .int .i64 a, .int .i64 b, v] 97) = wA at hA c1 c2 ⊢
  generalize w.heap.size = B at c1 c2 ⊢
  refine wp_region_held_drew (S := fun w' => Chg Never wA w' ∧ w'.cell? ⟨B, 1, none⟩ = some (.int .i64 a) ∧ w'.cell? ⟨B, 2, none⟩ = some (.int .i64 b)) (by kernel_rfl) ⟨(Chg.refl Never wA).drew, c1, c2⟩ (fun hH => ?_)
  refine' tk 0 ?_
  refine' tk 1 ?_
  refine' tk 4 ?_
  refine' tk 5 ?_
  refine wpAnyH_ready (rs := [2]) (by kernel_rfl) (by simp) ?_
  refine AllReadyH.cons rfl (fun K hK => ?_) AllReadyH.nil
  go_simp
  (go_at_call 96; refine (F1 _).mono ?_; rintro e wq ⟨rfl, rfl⟩)
  try go_wp2_with fail
  refine hK.out _ _ ?_ (fun hH => ?_)
  · assumption
  clear hK K
  try simp only [Act.put, List.setIfInBounds_toArray, List.set_cons_zero, List.set_cons_succ]
  refine' tk 3 ?_
  refine wpAnyH_ready (rs := [6]) (by kernel_rfl) (by simp) ?_
  refine AllReadyH.cons rfl (fun K hK => ?_) AllReadyH.nil
  go_simp
  (go_at_call 96; refine (F2 _).mono ?_; rintro e wq ⟨rfl, rfl⟩)
  try go_wp2_with fail
  refine hK.out _ _ ?_ (fun hH => ?_)
  · assumption
  clear hK K
  try simp only [Act.put, List.setIfInBounds_toArray, List.set_cons_zero, List.set_cons_succ]
  refine' tk 7 ?_
  refine' tk 8 ?_
  refine wpAnyH_done (by kernel_rfl) ?_ _
  rename (Chg Never wA _ ∧ _) => hF
  have hcF := hA.trans hF.1
  clear hF
  go_wp2_with fail
  go_ret
  exact ⟨by rw [← HS.out]; rfl, hcF⟩
end Go.Proofs.YtjiaidchcldocaaGreatDoor
namespace Go.Proofs.YtjiaidchcldocaaGreatDoor

end Go.Proofs.YtjiaidchcldocaaGreatDoor
namespace Go.Proofs.YtjiaidchcldocaaGreatDoor

theorem cut_index {t : List UInt8} (ht : t ≠ []) : ∀ (s : List UInt8), match cutSub t s with
    | none => Lib.index s t = -1
    | some p => Lib.index s t = (p.1.length : Int) ∧ p.1 = s.take p.1.length ∧ p.2 = s.drop (p.1.length + t.length)
  | [] => by
    rw [cutSub, if_neg ht]
    show Lib.index [] t = -1
    unfold Lib.index
    rw [if_neg (by simpa using ht)]
  | c :: r => by
    have ih := cut_index ht r
    rw [cutSub]
    by_cases hp : t.isPrefixOf (c :: r) = true
    · rw [if_pos hp]
      refine ⟨?_, rfl, by simp⟩
      unfold Lib.index
      rw [if_pos hp]; rfl
    · rw [if_neg hp]
      cases hc : cutSub t r with
      | none =>
        rw [hc] at ih
        show Lib.index (c :: r) t = -1
        unfold Lib.index
        rw [if_neg hp, ih]; rfl
      | some p =>
        rw [hc] at ih
        obtain ⟨h1, h2, h3⟩ := ih
        show Lib.index (c :: r) t = ((c :: p.1).length : Int) ∧ c :: p.1 = (c :: r).take (c :: p.1).length ∧ p.2 = (c :: r).drop ((c :: p.1).length + t.length)
        refine ⟨?_, ?_, ?_⟩
        · unfold Lib.index
          rw [if_neg hp, h1, if_neg (by simp), List.length_cons]; omega
        · rw [List.length_cons, List.take_succ_cons, ← h2]
        · rw [List.length_cons, show p.1.length + 1 + t.length = p.1.length + t.length + 1 by omega, List.drop_succ_cons]; exact h3
theorem pos_of_index {t s : List UInt8} (ht : t ≠ []) : (cutSub t s = none ∧ Lib.index s t = -1) ∨ ∃ a b, cutSub t s = some (a, b) ∧ Lib.index s t = (a.length : Int) ∧ s = a ++ t ++ b := by
  have h := cut_index ht s
  cases hc : cutSub t s with
  | none => rw [hc] at h; exact .inl ⟨rfl, h⟩
  | some p =>
    rw [hc] at h
    exact .inr ⟨p.1, p.2, rfl, h.1, cut_some hc⟩
end Go.Proofs.YtjiaidchcldocaaGreatDoor
namespace Go.Proofs.YtjiaidchcldocaaGreatDoor
open Go.RowKit

theorem atoi_three : ∀ n, n < 1000 → Lib.atoi (dec3 n) = some (n : Int) := by decide +kernel
theorem num_atoi {l : List UInt8} {n : Nat} (h : numOf l = some n) : Lib.atoiAll l = .ok (n : Int) ∧ l.length ≤ 3 ∧ Lib.itoa n = l ∧ n < 1000 := by
  obtain ⟨h1, h2⟩ := num_some h
  have h3 : l.length ≤ 3 := by rw [← h2]; exact dec_len h1
  refine ⟨?_, h3, by rw [itoa_nat, h2], h1⟩
  rw [Lib.atoiAll_short l (by omega), ← h2, digits_three h1, atoi_three n h1]
  rfl
theorem num_of_ok {l : List UInt8} {v : Int} (h0 : 0 ≤ v) (h3 : l.length ≤ 3) (he : Lib.itoa v = l) : numOf l = some v.toNat := by
  obtain ⟨n, rfl⟩ : ∃ n : Nat, v = n := ⟨v.toNat, by omega⟩
  rw [itoa_nat] at he
  have hl : n < 1000 := by
    have h1 := Lib.lt_pow_nDigits n
    have h2 := Lib.decDigits_length n
    rw [he] at h2
    have : (10 : Nat) ^ Lib.nDigits n ≤ 10 ^ 3 := Nat.pow_le_pow_right (by decide) (by omega)
    omega
  rw [← he, num_dec hl]; rfl
def AtoiBad (w : World) (e : Ending) (w' : World) : Prop := ∃ (x : Int) (T : TypeId) (p : Value), I64 x ∧ e = .returned (.tuple #[.int .i64 x, .iface T p]) ∧ Chg Never w w'
theorem atoi_bad (s : ByteArray) (hs : s.size ≤ 1000000000) (h : ∀ v, Lib.atoiAll s.data.toList ≠ .ok v) (w : World) (m : Int) (hg : Globs w m) :
    Calls Tryz.prog 99 #[.string s] w (AtoiBad w) := by
  obtain ⟨e1, h3, h4⟩ := hg.es
  obtain ⟨e2, h5, h6⟩ := hg.er
  cases hx : Lib.atoiAll s.data.toList with
  | ok v => exact absurd hx (h v)
  | range =>
    refine (Tryz.strconv_Atoi_range s (by omega) hx e2 w h5 h6).mono ?_
    rintro e w' ⟨N, rfl, _, _, hb⟩
    obtain ⟨b0, b1⟩ := Lib.atoiSat_bounds s.data.toList
    exact ⟨_, _, _, ⟨by omega, by omega⟩, rfl, Chg.of_below hb⟩
  | _ =>
    refine (Any.strconv_Atoi_syntax Tryz.laysC172 s (by omega) hx e1 w h3 h4).mono ?_
    rintro e w' ⟨N, rfl, _, _, hb⟩
    exact ⟨_, _, _, ⟨by omega, by omega⟩, rfl, Chg.of_below hb⟩
def NumPost (s : ByteArray) (w : World) (e : Ending) (w' : World) : Prop :=
  ∃ x : Int, I64 x ∧ e = .returned (.tuple #[.int .i64 x, .bool (numOf s.data.toList).isSome]) ∧ (∀ n, numOf s.data.toList = some n → x = n) ∧ Chg Never w w'
theorem numPost_no {s : ByteArray} {w w' : World} {e : Ending} (x : Int) (hx : I64 x) (hn : numOf s.data.toList = none) (he : e = .returned (.tuple #[.int .i64 x, .bool false])) (hc : Chg Never w w') : NumPost s w e w' := by
  refine ⟨x, hx, by rw [hn]; exact he, ?_, hc⟩
  intro n h
  rw [hn] at h; cases h
theorem numPost_yes {s : ByteArray} {w w' : World} {e : Ending} (x : Int) (hx : I64 x) (hn : numOf s.data.toList = some x.toNat) (h0 : 0 ≤ x) (he : e = .returned (.tuple #[.int .i64 x, .bool true])) (hc : Chg Never w w') : NumPost s w e w' := by
  refine ⟨x, hx, by rw [hn]; exact he, ?_, hc⟩
  intro n h
  rw [hn] at h; injection h with h; omega
set_option maxHeartbeats 1000000 in
set_option maxRecDepth 100000 in
theorem number_any (s : ByteArray) (hs : s.size ≤ 1000000000) (w : World) (m : Int) (hg : Globs w m) :
    Calls Tryz.prog 205 #[.string s] w (NumPost s w) := by
  by_cases hok : ∃ v, Lib.atoiAll s.data.toList = .ok v
  · obtain ⟨v, hv⟩ := hok
    obtain ⟨vb0, vb1⟩ := Lib.atoiAll_bounds hv
    have hvi : I64 v := ⟨by omega, by omega⟩
    have hno : numOf s.data.toList = none ∨ numOf s.data.toList = some v.toNat ∧ 0 ≤ v ∧ s.size ≤ 3 ∧ Lib.itoa v = s.data.toList := by
      cases hn : numOf s.data.toList with
      | none => exact .inl rfl
      | some n =>
        obtain ⟨q1, q2, q3, _⟩ := num_atoi hn
        rw [hv] at q1
        injection q1 with q1
        subst q1
        exact .inr ⟨by simp, by omega, by rw [Lib.size_eq]; exact q2, q3⟩
    have HNO := Lib.hid hno
    have HV := Lib.hid hv
    clear hno hv
    go_enter Tryz.func205, Tryz.ntmps205
    go_wp2_with fail
    refine (Tryz.strconv_Atoi_ok s (by omega) v HV.out _).mono ?_
    rintro e w1 ⟨rfl, hW⟩
    have hc1 : Chg Never w w1 := by
      rcases hW with rfl | ⟨t, rfl⟩
      · exact Chg.refl _ _
      · exact Chg.of_below (Lib.bytesWorld_below _ _ _)
    clear hW
    by_cases v0 : 0 ≤ v
    · by_cases l3 : s.size ≤ 3
      · have t3 : decide ((s.size : Int) ≤ 3) = true := decide_eq_true (by omega)
        go_wp2_with fail
        refine (Tryz.strconv_Itoa v vb0 (by omega) _ (hg.never hc1).tab).mono ?_
        rintro e w2 ⟨rfl, k, os, rfl⟩
        have hc2 := hc1.trans (chg_grow w1 k os)
        by_cases he : Lib.itoa v = s.data.toList
        · have hyes := Lib.hid (num_of_ok v0 (by rw [← Lib.size_eq]; exact l3) he)
          have ht : ((⟨(Lib.itoa v).toArray⟩ : ByteArray).toList == s.toList) = true := by rw [Lib.toList_data, Lib.toList_data, he]; simp
          clear he HNO
          generalize (⟨(Lib.itoa v).toArray⟩ : ByteArray) = X at ht ⊢
          go_wp2_with fail
          go_ret2
          exact numPost_yes v hvi hyes.out v0 rfl hc2
        · have hn : Hid (numOf s.data.toList = none) := by
            rcases HNO.out with q | q
            · exact q
            · exact absurd q.2.2.2 he
          have ht : ((⟨(Lib.itoa v).toArray⟩ : ByteArray).toList == s.toList) = false := by rw [Lib.toList_data, Lib.toList_data]; simpa using he
          clear he HNO
          generalize (⟨(Lib.itoa v).toArray⟩ : ByteArray) = X at ht ⊢
          go_wp2_with fail
          go_ret2
          exact numPost_no v hvi hn.out rfl hc2
      · have hn : Hid (numOf s.data.toList = none) := by
          rcases HNO.out with q | q
          · exact q
          · exact absurd q.2.2.1 l3
        have t3 : decide ((s.size : Int) ≤ 3) = false := decide_eq_false (by omega)
        clear HNO
        go_wp2_with fail
        go_ret2
        exact numPost_no v hvi hn.out rfl hc1
    · have hn : Hid (numOf s.data.toList = none) := by
        rcases HNO.out with q | q
        · exact q
        · exact absurd q.2.1 v0
      have t0 : decide ((0 : Int) ≤ v) = false := decide_eq_false v0
      clear HNO
      go_wp2_with fail
      go_ret2
      exact numPost_no v hvi hn.out rfl hc1
  · have hn : Hid (numOf s.data.toList = none) := by
      cases hn : numOf s.data.toList with
      | none => rfl
      | some n => exact absurd ⟨_, (num_atoi hn).1⟩ hok
    go_enter Tryz.func205, Tryz.ntmps205
    go_wp2_with fail
    refine (atoi_bad s hs (fun v q => hok ⟨v, q⟩) _ m hg).mono ?_
    rintro e w1 ⟨x, T, p, hx, rfl, hc1⟩
    clear hok
    go_wp2_with fail
    go_ret2
    exact numPost_no x hx hn.out rfl hc1

def ReadPost (s : ByteArray) (w : World) (e : Ending) (w' : World) : Prop :=
  ∃ x y : Int, e = .returned (.tuple #[.int .i64 x, .int .i64 y, .bool (spanOf s.data.toList).isSome]) ∧ (∀ a n, spanOf s.data.toList = some (a, n) → x = a ∧ y = (n : Int)) ∧ Chg Never w w'
theorem readPost_no {s : ByteArray} {w w' : World} {e : Ending} (x y : Int) (hn : spanOf s.data.toList = none) (he : e = .returned (.tuple #[.int .i64 x, .int .i64 y, .bool false])) (hc : Chg Never w w') : ReadPost s w e w' := by
  refine ⟨x, y, by rw [hn]; exact he, ?_, hc⟩
  intro a n h
  rw [hn] at h; cases h
theorem readPost_yes {s : ByteArray} {w w' : World} {e : Ending} (x : Int) (y : Nat) (hn : spanOf s.data.toList = some (x, y)) (he : e = .returned (.tuple #[.int .i64 x, .int .i64 y, .bool true])) (hc : Chg Never w w') : ReadPost s w e w' := by
  refine ⟨x, y, by rw [hn]; exact he, ?_, hc⟩
  intro a n h
  rw [hn] at h
  injection h with h
  injection h with h1 h2
  exact ⟨h1, by rw [h2]⟩
def cutA (t s : List UInt8) : List UInt8 := match cutSub t s with
  | none => s
  | some p => p.1
def cutB (t s : List UInt8) : List UInt8 := match cutSub t s with
  | none => []
  | some p => p.2
theorem lib_cut {t s : List UInt8} (ht : t ≠ []) : Lib.cut s t = (cutA t s, cutB t s, (cutSub t s).isSome) := by
  have h := cut_index ht s
  unfold Lib.cut cutA cutB
  cases hc : cutSub t s with
  | none =>
    rw [hc] at h
    simp only at h ⊢
    simp [h]
  | some p =>
    rw [hc] at h
    obtain ⟨h1, h2, h3⟩ := h
    simp only
    rw [h1]
    simp [← h2, ← h3]
theorem cutA_len (t s : List UInt8) : (cutA t s).length ≤ s.length := by
  unfold cutA
  cases hc : cutSub t s with
  | none => exact Nat.le_refl _
  | some p => have := congrArg List.length (cut_some (a := p.1) (b := p.2) hc); simp only [List.length_append] at this; simp only; omega
theorem cutB_len (t s : List UInt8) : (cutB t s).length ≤ s.length := by
  unfold cutB
  cases hc : cutSub t s with
  | none => exact Nat.zero_le _
  | some p => have := congrArg List.length (cut_some (a := p.1) (b := p.2) hc); simp only [List.length_append] at this; simp only; omega
theorem span_cut (s : List UInt8) : spanOf s = match numOf (cutA [44] s) with
    | none => none
    | some x => match numOf (cutB [44] s) with
      | none => none
      | some y => if 0 < y then (if x = 0 then none else some ((x : Int) - 1, y)) else some ((x : Int), y) := by
  unfold spanOf cutA cutB
  cases hc : cutSub [44] s with
  | none =>
    simp only
    have : numOf [] = none := rfl
    rw [this]
    cases numOf s <;> rfl
  | some p => rfl

set_option maxHeartbeats 1000000 in
set_option maxRecDepth 100000 in
theorem read_any (s : ByteArray) (hs : s.size ≤ 1000000000) (w : World) (m : Int) (hg : Globs w m) :
    Calls Tryz.prog 173 #[.string s] w (ReadPost s w) := by
  have hsp := span_cut s.data.toList
  have hA := cutA_len [44] s.data.toList
  have hB := cutB_len [44] s.data.toList
  rw [← Lib.size_eq] at hA hB
  obtain ⟨ca, hca⟩ : ∃ x, cutA [44] s.data.toList = x := ⟨_, rfl⟩
  obtain ⟨cb, hcb⟩ : ∃ x, cutB [44] s.data.toList = x := ⟨_, rfl⟩
  have hcut : Hid (Lib.cut s.data.toList (toB [44]).data.toList = (ca, cb, (cutSub [44] s.data.toList).isSome)) := by rw [Hid, toB_data, lib_cut (by simp), hca, hcb]
  rw [hca] at hsp hA
  rw [hcb] at hsp hB
  have HSP := Lib.hid hsp
  clear hsp hca hcb
  go_enter Tryz.func173, Tryz.ntmps173
  go_wp2_with fail
  refine (Tryz.strings_Cut s (toB [44]) m _ (by omega) hg.ml).mono ?_
  rintro e w1 ⟨rfl, nd, rfl⟩
  have hc1 : Chg Never w (w.drewN nd) := (Chg.refl Never w).drewN nd
  rw [hcut.out]
  generalize (cutSub [44] s.data.toList).isSome = fb
  generalize w.drewN nd = w1 at hc1 ⊢
  go_wp2_with fail
  refine (number_any (toB ca) (by rw [toB_size']; omega) _ m (hg.never hc1)).mono ?_
  rintro e w2 ⟨x, hx, rfl, hxn, hc2⟩
  rw [toB_data] at hxn ⊢
  have hc2 := hc1.trans hc2
  go_wp2_with fail
  refine (number_any (toB cb) (by rw [toB_size']; omega) _ m (hg.never hc2)).mono ?_
  rintro e w3 ⟨y, hy, rfl, hyn, hc3⟩
  rw [toB_data] at hyn ⊢
  have hc3 := hc2.trans hc3
  clear hc1 hc2 hcut hA hB
  cases ha : numOf ca with
  | none =>
    have hn : Hid (spanOf s.data.toList = none) := by rw [Hid, HSP.out, ha]
    clear hxn hyn HSP ha
    rw [Option.isSome_none]
    generalize (numOf cb).isSome = fb2
    by_cases hy0 : 0 < y
    · have t0 : decide ((0 : Int) < y) = true := decide_eq_true hy0
      go_wp2_with fail
      go_ret3
      exact readPost_no _ _ hn.out rfl hc3
    · have t0 : decide ((0 : Int) < y) = false := decide_eq_false hy0
      go_wp2_with fail
      go_ret3
      exact readPost_no _ _ hn.out rfl hc3
  | some n1 =>
    have hn1 := numOf_lt ha
    have hx1 := hxn n1 ha
    subst hx1
    rw [Option.isSome_some]
    cases hb : numOf cb with
    | none =>
      have hn : Hid (spanOf s.data.toList = none) := by rw [Hid, HSP.out, ha, hb]
      clear hxn hyn HSP ha hb
      rw [Option.isSome_none]
      by_cases hy0 : 0 < y
      · have t0 : decide ((0 : Int) < y) = true := decide_eq_true hy0
        go_wp2_with fail
        go_ret3
        exact readPost_no _ _ hn.out rfl hc3
      · have t0 : decide ((0 : Int) < y) = false := decide_eq_false hy0
        go_wp2_with fail
        go_ret3
        exact readPost_no _ _ hn.out rfl hc3
    | some n2 =>
      have hn2 := numOf_lt hb
      have hy1 := hyn n2 hb
      subst hy1
      rw [Option.isSome_some]
      have HS : Hid (spanOf s.data.toList = if 0 < n2 then (if n1 = 0 then none else some ((n1 : Int) - 1, n2)) else some ((n1 : Int), n2)) := by rw [Hid, HSP.out, ha, hb]
      clear hxn hyn HSP ha hb
      by_cases h2 : 0 < n2
      · have t0 : decide ((0 : Int) < (n2 : Int)) = true := decide_eq_true (by omega)
        have t0n : decide (0 < n2) = true := decide_eq_true h2
        by_cases h1 : n1 = 0
        · subst h1
          have hn : Hid (spanOf s.data.toList = none) := by rw [Hid, HS.out, if_pos h2, if_pos rfl]
          clear HS
          go_wp2_with fail
          go_ret3
          exact readPost_no _ _ hn.out rfl hc3
        · have hn : Hid (spanOf s.data.toList = some ((n1 : Int) - 1, n2)) := by rw [Hid, HS.out, if_pos h2, if_neg h1]
          have g1 : (0 : Int) ≤ (n1 : Int) - 1 := by omega
          have g2 : (1 : Int) ≤ (n1 : Int) := by omega
          have g3 : decide ((0 : Int) ≤ (n1 : Int) - 1) = true := decide_eq_true g1
          clear HS
          go_wp2_with fail
          go_ret3
          exact readPost_yes _ _ hn.out rfl hc3
      · have t0 : decide ((0 : Int) < (n2 : Int)) = false := decide_eq_false (by omega)
        have t0n : decide (0 < n2) = false := decide_eq_false h2
        have hn : Hid (spanOf s.data.toList = some ((n1 : Int), n2)) := by rw [Hid, HS.out, if_neg h2]
        obtain rfl : n2 = 0 := by omega
        clear HS
        go_wp2_with fail
        go_ret3
        exact readPost_yes _ _ hn.out rfl hc3
end Go.Proofs.YtjiaidchcldocaaGreatDoor
namespace Go.Proofs.YtjiaidchcldocaaGreatDoor

def subA (m : Mail) : List UInt8 := cutA [47] (Lib.trimPrefix m.subject.data.toList patW)
def subB (m : Mail) : List UInt8 := cutA [93, 32] (cutB [47] (Lib.trimPrefix m.subject.data.toList patW))
def subT (m : Mail) : List UInt8 := cutB [93, 32] (cutB [47] (Lib.trimPrefix m.subject.data.toList patW))
def ReadOk (m : Mail) (x y : Int) : Prop := Lib.atoiAll (subA m) = .ok x ∧ Lib.atoiAll (subB m) = .ok y ∧ 0 ≤ x ∧ x ≤ y ∧ y ≤ 8 ∧ titledB (subT m) = true ∧ m.sender.data.toList = handW ∧ m.subject.data.toList = subjL x.toNat y.toNat (subT m) ∧ m.ident.data.toList = idL x.toNat y.toNat ∧ ¬ (x = 0 ∧ m.body ≠ [])
theorem read_of {m : Mail} {x y : Int} (h : ReadOk m x y) : mpartOf m = some (subT m, x.toNat, y.toNat) := by
  obtain ⟨-, -, h1, h2, h3, h4, h5, h6, h7, h8⟩ := h
  have e : m = partMail (subT m) x.toNat y.toNat m.body := by
    obtain ⟨ms, mu, mi, mb⟩ := m
    simp only at h5 h6 h7
    unfold partMail
    rw [← h6, ← h5, ← h7, toB_of, toB_of, toB_of]
  rw [e]
  have := part_back (t := subT m) (body := m.body) (a := x.toNat) (b := y.toNat) (by omega) (by omega) h4 (fun q => Decidable.byContradiction fun hb => h8 ⟨by omega, hb⟩)
  rw [← e] at this ⊢
  exact this
theorem dec_no {n : Nat} (hn : n ≤ 8) (x : UInt8) (hx : x.toNat < 48 ∨ 57 < x.toNat) : ∀ c ∈ Lib.decDigits n, c ≠ x := fun c hc e => by
  have := dec_digit (show n < 1000 by omega) hc
  rw [e] at this; omega
theorem read_yes {m : Mail} {t : List UInt8} {x y : Nat} (h : mpartOf m = some (t, x, y)) : ReadOk m x y ∧ subT m = t := by
  obtain ⟨h1, h2, h3, h4, h5⟩ := part_some h
  have es : m.subject.data.toList = subjL x y t := by rw [h5]; exact toB_data _
  have ef : m.sender.data.toList = handW := by rw [h5]; exact toB_data _
  have ei : m.ident.data.toList = idL x y := by rw [h5]; exact toB_data _
  have e0 : Lib.trimPrefix m.subject.data.toList patW = Lib.decDigits x ++ [47] ++ (Lib.decDigits y ++ [93, 32] ++ t) := by
    rw [es]
    unfold Lib.trimPrefix subjL
    rw [if_pos (by rw [Lib.hasPrefix, List.isPrefixOf_iff_prefix]; exact ⟨_, rfl⟩), List.drop_left]
  have c1 := cut_at (x := 47) (t := []) (Lib.decDigits y ++ [93, 32] ++ t) (dec_no (n := x) (by omega) 47 (by decide))
  have c2 := cut_at (x := 93) (t := [32]) t (dec_no (n := y) h2 93 (by decide))
  have eA : subA m = Lib.decDigits x := by unfold subA cutA; rw [e0, c1]
  have eR : cutB [47] (Lib.trimPrefix m.subject.data.toList patW) = Lib.decDigits y ++ [93, 32] ++ t := by unfold cutB; rw [e0, c1]
  have eB : subB m = Lib.decDigits y := by unfold subB; rw [eR]; unfold cutA; rw [c2]
  have eT : subT m = t := by unfold subT; rw [eR]; unfold cutB; rw [c2]
  have a1 := (num_atoi (num_dec (show x < 1000 by omega))).1
  have a2 := (num_atoi (num_dec (show y < 1000 by omega))).1
  refine ⟨⟨by rw [eA]; exact a1, by rw [eB]; exact a2, by omega, by omega, by omega, by rw [eT]; exact h3, ef, by rw [eT]; exact es, ei, ?_⟩, eT⟩
  rintro ⟨q, r⟩
  exact r (h4 (by omega))
theorem read_none {m : Mail} (h : ∀ x y, ¬ ReadOk m x y) : mpartOf m = none := by
  cases e : mpartOf m with
  | none => rfl
  | some p => obtain ⟨t, x, y⟩ := p; exact absurd (read_yes e).1 (h _ _)
theorem mail_small {m : Mail} (h : mailFault m = 0) : m.sender.size ≤ 40 ∧ m.subject.size ≤ 40 ∧ m.ident.size ≤ 40 ∧ m.body.length ≤ 40000 := by
  unfold mailFault at h
  split at h
  · cases h
  · rename_i q
    split at h
    · cases h
    · rename_i q2
      simp only [not_or, Bool.not_eq_false] at q
      have wl : ∀ s : List UInt8, wordB s = true → s.length ≤ 40 := fun s hs => by
        unfold wordB at hs
        simp only [Bool.and_eq_true, decide_eq_true_eq] at hs
        exact hs.1.2
      exact ⟨by rw [Lib.size_eq]; exact wl _ q.1, by rw [Lib.size_eq]; exact wl _ q.2.1, by rw [Lib.size_eq]; exact wl _ q.2.2.1, by omega⟩
theorem trim_len (s p : List UInt8) : (Lib.trimPrefix s p).length ≤ s.length := by
  unfold Lib.trimPrefix
  split
  · rw [List.length_drop]; omega
  · exact Nat.le_refl _
theorem pieceF_chk {m : Mail} (h : mailFault m ≠ 0) : pieceF m = mailFault m := if_pos h
theorem pieceF_none {m : Mail} (h : mailFault m = 0) (hn : mpartOf m = none) : pieceF m = 5 := by
  unfold pieceF
  rw [if_neg (by rw [h]; simp), hn]
theorem pieceF_some {m : Mail} {t : List UInt8} {x y : Nat} (h : mailFault m = 0) (hn : mpartOf m = some (t, x, y)) : pieceF m = (parseG m.body).2 ∧ pieceOf m = ⟨t, x, y, (parseG m.body).1⟩ := by
  unfold pieceF pieceOf
  rw [if_neg (by rw [h]; simp), hn]
  exact ⟨rfl, rfl⟩
end Go.Proofs.YtjiaidchcldocaaGreatDoor
namespace Go.Proofs.YtjiaidchcldocaaGreatDoor
open Go.RowKit

def Blk4 (w : World) (B : Nat) (t : TypeId) (x y z u : Value) : Prop := w.heap[B]? = some (.cells #[x, y, z, u] t (0, 0))
theorem Blk4.cell {w : World} {B : Nat} {t : TypeId} {x y z u : Value} (h : Blk4 w B t x y z u) : w.cell? ⟨B, 0, none⟩ = some x ∧ w.cell? ⟨B, 1, none⟩ = some y ∧ w.cell? ⟨B, 2, none⟩ = some z ∧ w.cell? ⟨B, 3, none⟩ = some u := by
  unfold Blk4 at h
  simp [World.cell?, h]
theorem Blk4.free {w : World} {B : Nat} {t : TypeId} {x y z u : Value} (h : Blk4 w B t x y z u) (j : Nat) : w.frozen? ⟨B, j, none⟩ = false := by
  unfold Blk4 at h
  simp [World.frozen?, h]
theorem Blk4.lt {w : World} {B : Nat} {t : TypeId} {x y z u : Value} (h : Blk4 w B t x y z u) : B < w.heap.size := (Array.getElem?_eq_some_iff.1 h).1
theorem Blk4.keep {w w' : World} {B : Nat} {t : TypeId} {x y z u : Value} {O : Nat → Prop} (h : Blk4 w B t x y z u) (hc : Chg O w w') (hB : ¬ O B) : Blk4 w' B t x y z u := by
  have := hc.block B h.lt hB
  unfold Blk4 at *
  rw [this]
  exact h
theorem Blk4.set0 {w : World} {B : Nat} {t : TypeId} {x y z u : Value} (h : Blk4 w B t x y z u) (v : Value) : Blk4 (w.setCell ⟨B, 0, none⟩ v) B t v y z u := by
  unfold Blk4 at *
  simp [World.setCell, Array.getElem?_modify, h]
theorem Blk4.set1 {w : World} {B : Nat} {t : TypeId} {x y z u : Value} (h : Blk4 w B t x y z u) (v : Value) : Blk4 (w.setCell ⟨B, 1, none⟩ v) B t x v z u := by
  unfold Blk4 at *
  simp [World.setCell, Array.getElem?_modify, h]
theorem Blk4.set2 {w : World} {B : Nat} {t : TypeId} {x y z u : Value} (h : Blk4 w B t x y z u) (v : Value) : Blk4 (w.setCell ⟨B, 2, none⟩ v) B t x y v u := by
  unfold Blk4 at *
  simp [World.setCell, Array.getElem?_modify, h]
theorem Blk4.set3 {w : World} {B : Nat} {t : TypeId} {x y z u : Value} (h : Blk4 w B t x y z u) (v : Value) : Blk4 (w.setCell ⟨B, 3, none⟩ v) B t x y z v := by
  unfold Blk4 at *
  simp [World.setCell, Array.getElem?_modify, h]
theorem Blk4.setAll {w : World} {B : Nat} {t : TypeId} {x y z u : Value} (h : Blk4 w B t x y z u) (a b c d : Value) : Blk4 ((((w.setCell ⟨B, 0, none⟩ a).setCell ⟨B, 1, none⟩ b).setCell ⟨B, 2, none⟩ c).setCell ⟨B, 3, none⟩ d) B t a b c d := (((h.set0 a).set1 b).set2 c).set3 d
theorem Blk4.new (w : World) (t : TypeId) (x y z u : Value) : Blk4 (w.alloc (.cells #[x, y, z, u] t)) w.heap.size t x y z u := heap_alloc_new _ _
theorem chg_four {O : Nat → Prop} {w w' : World} {B : Nat} (h : Chg O w w') (hB : w.heap.size ≤ B ∨ O B) (a b c d : Value) : Chg O w ((((w'.setCell ⟨B, 0, none⟩ a).setCell ⟨B, 1, none⟩ b).setCell ⟨B, 2, none⟩ c).setCell ⟨B, 3, none⟩ d) :=
  (((h.setCell (p := ⟨B, 0, none⟩) hB a).setCell (p := ⟨B, 1, none⟩) hB b).setCell (p := ⟨B, 2, none⟩) hB c).setCell (p := ⟨B, 3, none⟩) hB d
end Go.Proofs.YtjiaidchcldocaaGreatDoor
namespace Go.Proofs.YtjiaidchcldocaaGreatDoor
open Go.RowKit

theorem OwnLast.keepO {e em : TypeId} {w w' : World} {O O' O'' : Nat → Prop} {v : Value} {init : List Hunk} {h : Hunk} {mv : Value} {xs : List Value} (hl : OwnLast e em w O v init h mv xs) (hc : Chg O' w w')
    (k1 : ∀ k, k < w.heap.size → O' k → O k) (k2 : ∀ k, k < w.heap.size → O'' k → O k) : OwnLast e em w' O'' v init h mv xs := by
  obtain ⟨h1, h2, h3, h4, h5⟩ := hl
  have hlt := fun k hk => (h1.lt k hk).2
  refine ⟨⟨h1.1, ?_⟩, fun k hk ho => h2 k hk (k2 k (hlt k hk) ho), fun i x hi => ?_, h4, ?_⟩
  · rcases h1.2 with h | ⟨g', cap', cur, hv, r1, r2, r3⟩
    · exact .inl h
    · subst hv
      exact .inr ⟨g', cap', cur, rfl, r1, (hc.block g' (hlt g' rfl) (fun ho => h2 g' rfl (k1 g' (hlt g' rfl) ho))).trans r2, r3⟩
  · refine Dat.keep (h3 i x hi) hc (fun k hk ho => .inl (.inl (k1 k hk ho))) ?_
    rintro k hk ((ho | ho) | ho)
    · exact .inl (.inl (k2 k hk ho))
    · exact .inl (.inr ho)
    · exact .inr ho
  · refine h5.keep hc (fun k hk ho => .inl (k1 k hk ho)) ?_
    rintro k hk (ho | ho)
    · exact .inl (k2 k hk ho)
    · exact .inr ho

def RdO (W0 B : Nat) : Nat → Prop := fun k => k < W0 ∨ k = B
def RdC (W0 B : Nat) : Nat → Prop := fun k => k = B ∨ W0 ≤ k
structure RdrAt (w : World) (W0 B : Nat) (v : Value) (hs : List Hunk) (o n : Nat) : Prop where
  base : W0 ≤ w.heap.size
  box : Blk3 w B 205 v (.int .i64 o) (.int .i64 n)
  rows : (hs = [] ∧ v = .slice none 0 0) ∨ ∃ init h mv xs, hs = init ++ [h] ∧ OwnLast 129 126 w (RdO W0 B) v init h mv xs
theorem RdrAt.own {w : World} {W0 B : Nat} {v : Value} {hs : List Hunk} {o n : Nat} (h : RdrAt w W0 B v hs o n) : Own 129 w (RdO W0 B) v hs := by
  rcases h.rows with ⟨rfl, rfl⟩ | ⟨init, x, mv, xs, rfl, hl⟩
  · exact own_nil _ _ _
  · exact hl.own
theorem RdrAt.keep {w w' : World} {W0 B : Nat} {v : Value} {hs : List Hunk} {o n : Nat} (h : RdrAt w W0 B v hs o n) (hc : Chg Never w w') : RdrAt w' W0 B v hs o n := by
  refine ⟨Nat.le_trans h.base hc.size, h.box.keep hc (fun x => x), ?_⟩
  rcases h.rows with q | ⟨init, x, mv, xs, e, hl⟩
  · exact .inl q
  · exact .inr ⟨init, x, mv, xs, e, hl.keep hc⟩
theorem RdrAt.new (w : World) : RdrAt (w.alloc (.cells #[.slice none 0 0, .int .i64 0, .int .i64 0] 205)) w.heap.size w.heap.size (.slice none 0 0) [] 0 0 :=
  ⟨Nat.le_of_lt (by simp), Blk3.new w _ _ _ _, .inl ⟨rfl, rfl⟩⟩
theorem RdrAt.start {w : World} {W0 B : Nat} (h : Blk3 w B 205 (.slice none 0 0) (.int .i64 (0 : Nat)) (.int .i64 (0 : Nat))) (hw : W0 ≤ w.heap.size) : RdrAt w W0 B (.slice none 0 0) [] 0 0 := ⟨hw, h, .inl ⟨rfl, rfl⟩⟩
theorem RdrAt.set {w w' : World} {W0 B : Nat} {v : Value} {hs : List Hunk} {o n o' n' : Nat} (h : RdrAt w W0 B v hs o n) (hb : Blk3 w' B 205 v (.int .i64 o') (.int .i64 n')) (hc : Chg (fun k => k = B) w w') : RdrAt w' W0 B v hs o' n' := by
  refine ⟨Nat.le_trans h.base hc.size, hb, ?_⟩
  rcases h.rows with q | ⟨init, x, mv, xs, e, hl⟩
  · exact .inl q
  · exact .inr ⟨init, x, mv, xs, e, hl.keepO hc (fun _ _ hk => .inr hk) (fun _ _ hk => hk)⟩
theorem RdrAt.nil {w : World} {W0 B : Nat} {v : Value} {o n : Nat} (h : RdrAt w W0 B v [] o n) : v = .slice none 0 0 := by
  rcases h.rows with ⟨_, q⟩ | ⟨init, x, mv, xs, e, hl⟩
  · exact q
  · simp at e
theorem RdrAt.lt {w : World} {W0 B : Nat} {v : Value} {hs : List Hunk} {o n : Nat} (h : RdrAt w W0 B v hs o n) : B < w.heap.size := h.box.lt
theorem RdrAt.rdv {w : World} {W0 B : Nat} {v : Value} {hs : List Hunk} {o n : Nat} (h : RdrAt w W0 B v hs o n) : Rdv w (RdO W0 B) v hs := h.own.rdv
end Go.Proofs.YtjiaidchcldocaaGreatDoor
