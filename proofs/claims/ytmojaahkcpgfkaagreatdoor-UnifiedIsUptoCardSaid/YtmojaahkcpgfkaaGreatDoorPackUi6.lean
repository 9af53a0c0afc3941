/-
  PARTS: THE WALK of the document's headOf (handstitchref2).; HUNKS READ AS THE DOCUMENT READS THEM, in plain Lean: what holds at each line.; THE WALKS of unified.number and read.; A READER OF HUNKS IN MEMORY ('RdrAt'): a box of three cells: the hunks that have been read (the last one still grows), how many marks it needs.; THE WALKS of unified.Reader's Open and mark.; THE WALK of unified.Reader's Line.
-/
import Derived.Test.YtmojaahkcpgfkaaGreatDoorPackUi5
import Derived.Test.YtmojaahkcpgfkaaGreatDoorPackUi3
import Derived.Test.YtmojaahkcpgfkaaGreatDoorPackUi2
import Derived.Test.YtmojaahkcpgfkaaGreatDoorPackUi1
import Derived.Lib.IndexMore
import Derived.Test.YtmojaahkcpgfkaaGreatDoorPackUi4
import Derived.Deep.RegionHeld3
import Derived.Deep.Cut
namespace Go.Proofs.YtmojaahkcpgfkaaGreatDoor
open Go.RowKit

def HeadSays (o : Option (Int × Nat × Int × Nat)) (a b : Int) (x y : Nat) (B : Bool) : Prop := (B = false ∧ o = none) ∨ (B = true ∧ o = some (a, x, b, y))
def headV (a b : Int) (x y : Nat) (B : Bool) : Value := .tuple #[.agg #[.int .i64 a, .int .i64 b, .slice none 0 0], .int .i64 x, .int .i64 y, .bool B]
set_option maxHeartbeats 2000000 in
set_option maxRecDepth 100000 in
theorem refHeadOf_any (s : ByteArray) (hs : s.size ≤ 1000000000) (w : World) :
    Calls Tryz.prog 47 #[.string s] w fun e w' => ∃ (a b : Int) (x y : Nat) (B : Bool), e = .returned (headV a b x y B) ∧ Chg Never w w' ∧ HeadSays (headOf s.data.toList) a b x y B := by
  have hsz := Lib.size_eq s
  have hA0 : Chg Never w (w.alloc (.cells #[.int .i64 0, .int .i64 0, .slice none 0 0] 42)) := (Chg.refl Never w).alloc _
  have hB0 := Blk3.new w 42 (.int .i64 0) (.int .i64 0) (.slice none 0 0)
  have HS1 := fun wx => Lib.hid (starts_any s (toB atAt) wx hs (by decide))
  have HS2 := fun wx => Lib.hid (ends_any s (toB endAt) wx hs (by decide))
  obtain ⟨p1, e1⟩ : ∃ p1, atAt.isPrefixOf s.data.toList = p1 := ⟨_, rfl⟩
  obtain ⟨p2, e2⟩ : ∃ p2, endAt.isSuffixOf s.data.toList = p2 := ⟨_, rfl⟩
  rw [toB_data, e1] at HS1
  rw [toB_data, e2] at HS2
  have E1 := Lib.hid e1
  have E2 := Lib.hid e2
  have HSZ := Lib.hid hsz
  clear e1 e2 hsz
  go_enter Tryz.func47, Tryz.ntmps47
  go_wp2_with fail
  obtain ⟨w0, hw0⟩ : ∃ w0, w.alloc (.cells #[.int .i64 0, .int .i64 0, .slice none 0 0] 42) = w0 := ⟨_, rfl⟩
  obtain ⟨wb, hwbe⟩ : ∃ wb, w.heap.size = wb := ⟨_, rfl⟩
  have hwb : w.heap.size ≤ wb := Nat.le_of_eq hwbe
  rw [hw0] at hA0 hB0 ⊢
  rw [hwbe] at hB0 ⊢
  clear hw0 hwbe
  refine (HS1 _).out.mono ?_
  rintro e w1 ⟨rfl, rfl⟩
  rename World => w0
  go_wp2_with fail
  refine (HS2 _).out.mono ?_
  rintro e w1 ⟨rfl, rfl⟩
  rename World => w0
  have hA := hA0
  have hB := hB0
  obtain ⟨b0, b1, b2⟩ := hB.cell
  have f0 := hB.free 0
  have f1 := hB.free 1
  have f2 := hB.free 2
  have S0 := cell_put_eq b0
  have S1 := cell_put_eq b1
  have S2 := cell_put_eq b2
  clear hA0 hB0 HS1 HS2
  cases p1 with
  | false =>
    have hr : Hid (headOf s.data.toList = none) := by
      rw [Hid, head_ref]
      exact if_neg (fun q => by rw [E1.out] at q; exact absurd q.1 (by decide))
    go_wp2_with fail
    refine bodyPost_ret (v := headV 0 0 0 0 false) (by simp [headV, results, Tryz.results47, go_sem, b0, b1, b2]) rfl ?_
    exact ⟨0, 0, 0, 0, false, rfl, hA, .inl ⟨rfl, hr.out⟩⟩
  | true =>
    cases p2 with
    | false =>
      have hr : Hid (headOf s.data.toList = none) := by
        rw [Hid, head_ref]
        exact if_neg (fun q => by rw [E2.out] at q; exact absurd q.2.1 (by decide))
      go_wp2_with fail
      refine bodyPost_ret (v := headV 0 0 0 0 false) (by simp [headV, results, Tryz.results47, go_sem, b0, b1, b2]) rfl ?_
      exact ⟨0, 0, 0, 0, false, rfl, hA, .inl ⟨rfl, hr.out⟩⟩
    | true =>
      by_cases h7 : s.size < 7
      · have t7 : decide ((s.size : Int) < 7) = true := decide_eq_true (by omega)
        have hr : Hid (headOf s.data.toList = none) := by
          rw [Hid, head_ref]
          exact if_neg (fun q => by have := q.2.2; rw [← HSZ.out] at this; omega)
        go_wp2_with fail
        refine bodyPost_ret (v := headV 0 0 0 0 false) (by simp [headV, results, Tryz.results47, go_sem, b0, b1, b2]) rfl ?_
        exact ⟨0, 0, 0, 0, false, rfl, hA, .inl ⟨rfl, hr.out⟩⟩
      · have t7 : decide ((s.size : Int) < 7) = false := decide_eq_false (by omega)
        have HD : Hid ((s.extract 4 (s.size - 3)).data.toList = (s.data.toList.drop 4).take (s.data.toList.length - 7)) := by
          rw [Hid, Lib.extract_data, ← HSZ.out, show s.size - 3 - 4 = s.size - 7 by omega]
        have HT : Hid (headOf s.data.toList = match cutSub [32, 43] (s.extract 4 (s.size - 3)).data.toList with
            | none => none
            | some (u, v) => match spanOf u with
              | none => none
              | some (a, x) => match spanOf v with
                | none => none
                | some (b, y) => some (a, x, b, y)) := by
          rw [Hid, head_ref, if_pos ⟨E1.out, E2.out, by rw [← HSZ.out]; omega⟩, HD.out]; rfl
        have hTz : (s.extract 4 (s.size - 3)).size ≤ 1000000000 := by
          rw [Lib.size_eq, HD.out, List.length_take]
          have := HSZ.out
          omega
        have s3 : IntKind.i64.wrap ((s.size : Int) - 3) = ((s.size - 3 : Nat) : Int) := by rw [show (s.size : Int) - 3 = ((s.size - 3 : Nat) : Int) by omega]; exact IntWalk.i64_in _ (by omega)
        go_wp2_with fail
        clear s3 HD E1 E2 HSZ t7 h7
        generalize s.extract 4 (s.size - 3) = T at HT hTz ⊢
        have HF := find_any T ⟨#[32, 43]⟩ w0 hTz (by decide) (by decide)
        rw [show (⟨#[32, 43]⟩ : ByteArray).data.toList = [32, 43] from rfl] at HF
        rcases pos_of_index (t := [32, 43]) (s := T.data.toList) (by simp) with ⟨hc, hix⟩ | ⟨u, v, hc, hix, huv⟩
        · rw [hix] at HF
          rw [hc] at HT
          have HT : Hid (headOf s.data.toList = none) := HT
          clear hc hix
          refine HF.mono ?_
          rintro e w1 ⟨rfl, rfl⟩
          rename World => w0
          clear HF
          go_wp2_with fail
          refine bodyPost_ret (v := headV 0 0 0 0 false) (by simp [headV, results, Tryz.results47, go_sem, b0, b1, b2]) rfl ?_
          exact ⟨0, 0, 0, 0, false, rfl, hA, .inl ⟨rfl, HT.out⟩⟩
        · rw [hix] at HF
          rw [hc] at HT
          simp only at HT
          have hl := congrArg List.length huv
          rw [List.length_append, List.length_append, ← Lib.size_eq] at hl
          simp only [List.length_cons, List.length_nil] at hl
          have HX : (T.extract 0 u.length).data.toList = u := by
            rw [Lib.extract_data, huv, List.drop_zero, Nat.sub_zero, List.append_assoc, List.take_left]
          have HY : (T.extract (u.length + 2) T.size).data.toList = v := by
            rw [Lib.extract_data, Lib.size_eq, huv, show u.length + 2 = (u ++ [32, 43]).length by simp, List.drop_left, List.take_of_length_le (by simp; omega)]
          have N1 := fun wx => refSpanOf_any (T.extract 0 u.length) (by rw [Lib.size_eq, HX]; omega) wx
          have N2 := fun wx => refSpanOf_any (T.extract (u.length + 2) T.size) (by rw [Lib.size_eq, HY]; omega) wx
          rw [HX] at N1
          rw [HY] at N2
          obtain ⟨k, hk⟩ : ∃ k, u.length = k := ⟨_, rfl⟩
          have s1 : IntKind.i64.wrap ((k : Int) + 2) = (k : Int) + 2 := IntWalk.i64_in _ (by omega)
          rw [hk] at HF N1 N2 hl
          have hl2 : k + 2 ≤ T.size := by omega
          clear hc hix HX HY huv hk hl
          refine HF.mono ?_
          rintro e w1 ⟨rfl, rfl⟩
          rename World => w0
          clear HF
          cases h1 : spanOf u with
          | none =>
            rw [h1] at HT N1
            have HT : Hid (headOf s.data.toList = none) := HT
            cases h2 : spanOf v with
            | none =>
              rw [h2] at N2
              unfold spanR at N1 N2
              have N1 := fun wx => Lib.hid (N1 wx)
              have N2 := fun wx => Lib.hid (N2 wx)
              clear h1 h2
              go_wp2_with fail
              refine (N1 _).out.mono ?_
              rintro e w1 ⟨rfl, rfl⟩
              go_wp2_with fail
              refine (N2 _).out.mono ?_
              rintro e w1 ⟨rfl, rfl⟩
              clear N1 N2 s1
              have hBF := ((hB.set0 (.int .i64 0)).set1 (.int .i64 0)).set2 (.slice none 0 0)
              have hCF := ((hA.setCell (p := ⟨wb, 0, none⟩) (.inl hwb) (.int .i64 0)).setCell (p := ⟨wb, 1, none⟩) (.inl hwb) (.int .i64 0)).setCell (p := ⟨wb, 2, none⟩) (.inl hwb) (.slice none 0 0)
              clear S0 S1 S2
              go_wp2_with fail
              obtain ⟨d0, d1, d2⟩ := hBF.cell
              refine bodyPost_ret (v := headV 0 0 0 0 false) (by simp [headV, results, Tryz.results47, go_sem, d0, d1, d2]) rfl ?_
              exact ⟨0, 0, 0, 0, false, rfl, hCF, .inl ⟨rfl, HT.out⟩⟩
            | some q =>
              obtain ⟨b, y⟩ := q
              rw [h2] at N2
              unfold spanR at N1 N2
              have N1 := fun wx => Lib.hid (N1 wx)
              have N2 := fun wx => Lib.hid (N2 wx)
              clear h1 h2
              go_wp2_with fail
              refine (N1 _).out.mono ?_
              rintro e w1 ⟨rfl, rfl⟩
              go_wp2_with fail
              refine (N2 _).out.mono ?_
              rintro e w1 ⟨rfl, rfl⟩
              clear N1 N2 s1
              have hBF := ((hB.set0 (.int .i64 0)).set1 (.int .i64 b)).set2 (.slice none 0 0)
              have hCF := ((hA.setCell (p := ⟨wb, 0, none⟩) (.inl hwb) (.int .i64 0)).setCell (p := ⟨wb, 1, none⟩) (.inl hwb) (.int .i64 b)).setCell (p := ⟨wb, 2, none⟩) (.inl hwb) (.slice none 0 0)
              clear S0 S1 S2
              go_wp2_with fail
              obtain ⟨d0, d1, d2⟩ := hBF.cell
              refine bodyPost_ret (v := headV 0 b 0 y false) (by simp [headV, results, Tryz.results47, go_sem, d0, d1, d2]) rfl ?_
              exact ⟨0, b, 0, y, false, rfl, hCF, .inl ⟨rfl, HT.out⟩⟩
          | some q =>
            obtain ⟨a, x⟩ := q
            rw [h1] at HT N1
            simp only at HT
            cases h2 : spanOf v with
            | none =>
              rw [h2] at N2 HT
              have HT : Hid (headOf s.data.toList = none) := HT
              unfold spanR at N1 N2
              have N1 := fun wx => Lib.hid (N1 wx)
              have N2 := fun wx => Lib.hid (N2 wx)
              clear h1 h2
              go_wp2_with fail
              refine (N1 _).out.mono ?_
              rintro e w1 ⟨rfl, rfl⟩
              go_wp2_with fail
              refine (N2 _).out.mono ?_
              rintro e w1 ⟨rfl, rfl⟩
              clear N1 N2 s1
              have hBF := ((hB.set0 (.int .i64 a)).set1 (.int .i64 0)).set2 (.slice none 0 0)
              have hCF := ((hA.setCell (p := ⟨wb, 0, none⟩) (.inl hwb) (.int .i64 a)).setCell (p := ⟨wb, 1, none⟩) (.inl hwb) (.int .i64 0)).setCell (p := ⟨wb, 2, none⟩) (.inl hwb) (.slice none 0 0)
              clear S0 S1 S2
              go_wp2_with fail
              obtain ⟨d0, d1, d2⟩ := hBF.cell
              refine bodyPost_ret (v := headV a 0 x 0 false) (by simp [headV, results, Tryz.results47, go_sem, d0, d1, d2]) rfl ?_
              exact ⟨a, 0, x, 0, false, rfl, hCF, .inl ⟨rfl, HT.out⟩⟩
            | some q =>
              obtain ⟨b, y⟩ := q
              rw [h2] at N2 HT
              have HT : Hid (headOf s.data.toList = some (a, x, b, y)) := HT
              unfold spanR at N1 N2
              have N1 := fun wx => Lib.hid (N1 wx)
              have N2 := fun wx => Lib.hid (N2 wx)
              clear h1 h2
              go_wp2_with fail
              refine (N1 _).out.mono ?_
              rintro e w1 ⟨rfl, rfl⟩
              go_wp2_with fail
              refine (N2 _).out.mono ?_
              rintro e w1 ⟨rfl, rfl⟩
              clear N1 N2 s1
              have hBF := ((hB.set0 (.int .i64 a)).set1 (.int .i64 b)).set2 (.slice none 0 0)
              have hCF := ((hA.setCell (p := ⟨wb, 0, none⟩) (.inl hwb) (.int .i64 a)).setCell (p := ⟨wb, 1, none⟩) (.inl hwb) (.int .i64 b)).setCell (p := ⟨wb, 2, none⟩) (.inl hwb) (.slice none 0 0)
              clear S0 S1 S2
              go_wp2_with fail
              obtain ⟨d0, d1, d2⟩ := hBF.cell
              refine bodyPost_ret (v := headV a b x y true) (by simp [headV, results, Tryz.results47, go_sem, d0, d1, d2]) rfl ?_
              exact ⟨a, b, x, y, true, rfl, hCF, .inr ⟨rfl, HT.out⟩⟩
end Go.Proofs.YtmojaahkcpgfkaaGreatDoor
namespace Go.Proofs.YtmojaahkcpgfkaaGreatDoor

def TakInv (D : List (List UInt8)) (R : List Hunk × Nat × Bool) (k : Nat) (hs : List Hunk) (o n : Nat) : Prop := refTake (D.drop k) k hs o n = R
theorem tak_start (D : List (List UInt8)) (i : Nat) : TakInv D (refTake (D.drop i) i [] 0 0) i [] 0 0 := rfl
theorem tak_end {D : List (List UInt8)} {R : List Hunk × Nat × Bool} {k : Nat} {hs : List Hunk} {o n : Nat} (h : TakInv D R k hs o n) (hk : D.length ≤ k) : R = if 0 < o ∨ 0 < n then ([], k, false) else (hs, k, true) := by
  unfold TakInv at h
  rw [List.drop_of_length_le hk, refTake] at h
  exact h.symm
theorem tak_open {D : List (List UInt8)} {R : List Hunk × Nat × Bool} {k : Nat} {hs : List Hunk} {o n : Nat} (h : TakInv D R k hs o n) (hk : D.length ≤ k) (ho : 0 < o ∨ 0 < n) : R = ([], k, false) := by rw [tak_end h hk, if_pos ho]
theorem tak_done {D : List (List UInt8)} {R : List Hunk × Nat × Bool} {k : Nat} {hs : List Hunk} (h : TakInv D R k hs 0 0) (hk : D.length ≤ k) : R = (hs, k, true) := by rw [tak_end h hk, if_neg (by omega)]
theorem tak_stop {D : List (List UInt8)} {R : List Hunk × Nat × Bool} {k : Nat} {hs : List Hunk} {s : List UInt8} (h : TakInv D R k hs 0 0) (hx : D[k]? = some s) (hh : hunkHead s = false) : R = (hs, k, true) := by
  unfold TakInv at h
  obtain ⟨hk, rfl⟩ := List.getElem?_eq_some_iff.1 hx
  rw [List.drop_eq_getElem_cons hk, refTake, if_neg (by rw [hh]; simp)] at h
  exact h.symm
theorem tak_bad {D : List (List UInt8)} {R : List Hunk × Nat × Bool} {k : Nat} {hs : List Hunk} {o n : Nat} {s : List UInt8} (h : TakInv D R k hs o n) (hx : D[k]? = some s) (hh : (0 < o ∨ 0 < n) ∨ hunkHead s = true) (hr : readLine hs o n s = none) : R = ([], k, false) := by
  unfold TakInv at h
  obtain ⟨hk, rfl⟩ := List.getElem?_eq_some_iff.1 hx
  rw [List.drop_eq_getElem_cons hk, refTake, if_pos hh, hr] at h
  exact h.symm
theorem tak_step {D : List (List UInt8)} {R : List Hunk × Nat × Bool} {k : Nat} {hs hs' : List Hunk} {o n o' n' : Nat} {s : List UInt8} (h : TakInv D R k hs o n) (hx : D[k]? = some s) (hh : (0 < o ∨ 0 < n) ∨ hunkHead s = true) (hr : readLine hs o n s = some (hs', o', n')) : TakInv D R (k + 1) hs' o' n' := by
  unfold TakInv at *
  obtain ⟨hk, rfl⟩ := List.getElem?_eq_some_iff.1 hx
  rw [List.drop_eq_getElem_cons hk, refTake, if_pos hh, hr] at h
  exact h
/-- a head -/
theorem read_head {hs : List Hunk} {s : List UInt8} : readLine hs 0 0 s = match headOf s with
    | none => none
    | some (a, x, b, y) => some (hs ++ [⟨a, b, []⟩], x, y) := by
  unfold readLine
  rw [if_neg (by omega)]
  rfl
theorem tak_head_bad {D : List (List UInt8)} {R : List Hunk × Nat × Bool} {k : Nat} {hs : List Hunk} {s : List UInt8} (h : TakInv D R k hs 0 0) (hx : D[k]? = some s) (hh : hunkHead s = true) (hr : headOf s = none) : R = ([], k, false) :=
  tak_bad h hx (.inr hh) (by rw [read_head, hr])
theorem tak_head {D : List (List UInt8)} {R : List Hunk × Nat × Bool} {k : Nat} {hs : List Hunk} {s : List UInt8} {a b : Int} {x y : Nat} (h : TakInv D R k hs 0 0) (hx : D[k]? = some s) (hh : hunkHead s = true) (hr : headOf s = some (a, x, b, y)) : TakInv D R (k + 1) (hs ++ [⟨a, b, []⟩]) x y :=
  tak_step h hx (.inr hh) (by rw [read_head, hr])
/-- a mark -/
theorem tak_nil {D : List (List UInt8)} {R : List Hunk × Nat × Bool} {k : Nat} {hs : List Hunk} {o n : Nat} (h : TakInv D R k hs o n) (hx : D[k]? = some []) (ho : 0 < o ∨ 0 < n) : R = ([], k, false) :=
  tak_bad h hx (.inl ho) (by unfold readLine; rw [if_pos ho])
theorem tak_keep {D : List (List UInt8)} {R : List Hunk × Nat × Bool} {k : Nat} {hs : List Hunk} {g : Hunk} {o n : Nat} {r : List UInt8} (h : TakInv D R k (hs ++ [g]) o n) (hx : D[k]? = some (32 :: r)) (h1 : 0 < o) (h2 : 0 < n) : TakInv D R (k + 1) (hs ++ [⟨g.old, g.new, g.marks ++ [⟨32, toB r⟩]⟩]) (o - 1) (n - 1) :=
  tak_step h hx (.inl (.inl h1)) (by unfold readLine; rw [if_pos (.inl h1)]; simp only; rw [if_pos ⟨trivial, h1, h2⟩, add_mark])
theorem tak_take {D : List (List UInt8)} {R : List Hunk × Nat × Bool} {k : Nat} {hs : List Hunk} {g : Hunk} {o n : Nat} {r : List UInt8} (h : TakInv D R k (hs ++ [g]) o n) (hx : D[k]? = some (45 :: r)) (h1 : 0 < o) : TakInv D R (k + 1) (hs ++ [⟨g.old, g.new, g.marks ++ [⟨45, toB r⟩]⟩]) (o - 1) n :=
  tak_step h hx (.inl (.inl h1)) (by unfold readLine; rw [if_pos (.inl h1)]; simp only; rw [if_neg (by simp), if_pos ⟨trivial, h1⟩, add_mark])
theorem tak_put {D : List (List UInt8)} {R : List Hunk × Nat × Bool} {k : Nat} {hs : List Hunk} {g : Hunk} {o n : Nat} {r : List UInt8} (h : TakInv D R k (hs ++ [g]) o n) (hx : D[k]? = some (43 :: r)) (h1 : 0 < n) : TakInv D R (k + 1) (hs ++ [⟨g.old, g.new, g.marks ++ [⟨43, toB r⟩]⟩]) o (n - 1) :=
  tak_step h hx (.inl (.inr h1)) (by unfold readLine; rw [if_pos (.inr h1)]; simp only; rw [if_neg (by simp), if_neg (by simp), if_pos ⟨trivial, h1⟩, add_mark])
theorem tak_keep_bad {D : List (List UInt8)} {R : List Hunk × Nat × Bool} {k : Nat} {hs : List Hunk} {o n : Nat} {r : List UInt8} (h : TakInv D R k hs o n) (hx : D[k]? = some (32 :: r)) (ho : 0 < o ∨ 0 < n) (h1 : o = 0 ∨ n = 0) : R = ([], k, false) :=
  tak_bad h hx (.inl ho) (by unfold readLine; rw [if_pos ho]; simp only; rw [if_neg (by omega), if_neg (by simp), if_neg (by simp)])
theorem tak_take_bad {D : List (List UInt8)} {R : List Hunk × Nat × Bool} {k : Nat} {hs : List Hunk} {o n : Nat} {r : List UInt8} (h : TakInv D R k hs o n) (hx : D[k]? = some (45 :: r)) (ho : 0 < o ∨ 0 < n) (h1 : o = 0) : R = ([], k, false) :=
  tak_bad h hx (.inl ho) (by unfold readLine; rw [if_pos ho]; simp only; rw [if_neg (by simp), if_neg (by omega), if_neg (by simp)])
theorem tak_put_bad {D : List (List UInt8)} {R : List Hunk × Nat × Bool} {k : Nat} {hs : List Hunk} {o n : Nat} {r : List UInt8} (h : TakInv D R k hs o n) (hx : D[k]? = some (43 :: r)) (ho : 0 < o ∨ 0 < n) (h1 : n = 0) : R = ([], k, false) :=
  tak_bad h hx (.inl ho) (by unfold readLine; rw [if_pos ho]; simp only; rw [if_neg (by simp), if_neg (by simp), if_neg (by omega)])
theorem tak_sign_bad {D : List (List UInt8)} {R : List Hunk × Nat × Bool} {k : Nat} {hs : List Hunk} {o n : Nat} {c : UInt8} {r : List UInt8} (h : TakInv D R k hs o n) (hx : D[k]? = some (c :: r)) (ho : 0 < o ∨ 0 < n) (h1 : c ≠ 32) (h2 : c ≠ 45) (h3 : c ≠ 43) : R = ([], k, false) :=
  tak_bad h hx (.inl ho) (by unfold readLine; rw [if_pos ho]; simp only; rw [if_neg (fun q => h1 q.1), if_neg (fun q => h2 q.1), if_neg (fun q => h3 q.1)])
end Go.Proofs.YtmojaahkcpgfkaaGreatDoor
namespace Go.Proofs.YtmojaahkcpgfkaaGreatDoor
open Go.RowKit

theorem atoi_three : ∀ n, n < 1000 → Lib.atoi (dec3 n) = some (n : Int) := by decide +kernel
theorem num_atoi {l : List UInt8} {n : Nat} (h : numOf l = some n) : Lib.atoiAll l = .ok (n : Int) ∧ l.length ≤ 3 ∧ Lib.itoa n = l ∧ n < 1000 := by
  obtain ⟨h1, h2⟩ := num_some h
  have h3 : l.length ≤ 3 := by rw [← h2]; exact dec_len h1
  refine ⟨?_, h3, by rw [itoa_nat, h2], h1⟩
  rw [Lib.atoiAll_short l (by omega), ← h2, digits_three h1, atoi_three n h1]
  rfl
theorem num_of_ok {l : List UInt8} {v : Int} (h0 : 0 ≤ v) (h3 : l.length ≤ 3) (he : Lib.itoa v = l) : numOf l = some v.toNat := by
  obtain ⟨n, rfl⟩ : ∃ n : Nat, v = n := ⟨v.toNat, by omega⟩
  rw [itoa_nat] at he
  have hl : n < 1000 := by
    have h1 := Lib.lt_pow_nDigits n
    have h2 := Lib.decDigits_length n
    rw [he] at h2
    have : (10 : Nat) ^ Lib.nDigits n ≤ 10 ^ 3 := Nat.pow_le_pow_right (by decide) (by omega)
    omega
  rw [← he, num_dec hl]; rfl
def AtoiBad (w : World) (e : Ending) (w' : World) : Prop := ∃ (x : Int) (T : TypeId) (p : Value), I64 x ∧ e = .returned (.tuple #[.int .i64 x, .iface T p]) ∧ Chg Never w w'
theorem atoi_bad (s : ByteArray) (hs : s.size ≤ 1000000000) (h : ∀ v, Lib.atoiAll s.data.toList ≠ .ok v) (w : World) (m : Int) (hg : Globs w m) :
    Calls Tryz.prog 94 #[.string s] w (AtoiBad w) := by
  obtain ⟨e1, h3, h4⟩ := hg.es
  obtain ⟨e2, h5, h6⟩ := hg.er
  cases hx : Lib.atoiAll s.data.toList with
  | ok v => exact absurd hx (h v)
  | range =>
    refine (Tryz.strconv_Atoi_range s (by omega) hx e2 w h5 h6).mono ?_
    rintro e w' ⟨N, rfl, _, _, hb⟩
    obtain ⟨b0, b1⟩ := Lib.atoiSat_bounds s.data.toList
    exact ⟨_, _, _, ⟨by omega, by omega⟩, rfl, Chg.of_below hb⟩
  | _ =>
    refine (Any.strconv_Atoi_syntax Tryz.laysC172 s (by omega) hx e1 w h3 h4).mono ?_
    rintro e w' ⟨N, rfl, _, _, hb⟩
    exact ⟨_, _, _, ⟨by omega, by omega⟩, rfl, Chg.of_below hb⟩
def NumPost (s : ByteArray) (w : World) (e : Ending) (w' : World) : Prop :=
  ∃ x : Int, I64 x ∧ e = .returned (.tuple #[.int .i64 x, .bool (numOf s.data.toList).isSome]) ∧ (∀ n, numOf s.data.toList = some n → x = n) ∧ Chg Never w w'
theorem numPost_no {s : ByteArray} {w w' : World} {e : Ending} (x : Int) (hx : I64 x) (hn : numOf s.data.toList = none) (he : e = .returned (.tuple #[.int .i64 x, .bool false])) (hc : Chg Never w w') : NumPost s w e w' := by
  refine ⟨x, hx, by rw [hn]; exact he, ?_, hc⟩
  intro n h
  rw [hn] at h; cases h
theorem numPost_yes {s : ByteArray} {w w' : World} {e : Ending} (x : Int) (hx : I64 x) (hn : numOf s.data.toList = some x.toNat) (h0 : 0 ≤ x) (he : e = .returned (.tuple #[.int .i64 x, .bool true])) (hc : Chg Never w w') : NumPost s w e w' := by
  refine ⟨x, hx, by rw [hn]; exact he, ?_, hc⟩
  intro n h
  rw [hn] at h; injection h with h; omega
set_option maxHeartbeats 1000000 in
set_option maxRecDepth 100000 in
theorem number_any (s : ByteArray) (hs : s.size ≤ 1000000000) (w : World) (m : Int) (hg : Globs w m) :
    Calls Tryz.prog 76 #[.string s] w (NumPost s w) := by
  by_cases hok : ∃ v, Lib.atoiAll s.data.toList = .ok v
  · obtain ⟨v, hv⟩ := hok
    obtain ⟨vb0, vb1⟩ := Lib.atoiAll_bounds hv
    have hvi : I64 v := ⟨by omega, by omega⟩
    have hno : numOf s.data.toList = none ∨ numOf s.data.toList = some v.toNat ∧ 0 ≤ v ∧ s.size ≤ 3 ∧ Lib.itoa v = s.data.toList := by
      cases hn : numOf s.data.toList with
      | none => exact .inl rfl
      | some n =>
        obtain ⟨q1, q2, q3, _⟩ := num_atoi hn
        rw [hv] at q1
        injection q1 with q1
        subst q1
        exact .inr ⟨by simp, by omega, by rw [Lib.size_eq]; exact q2, q3⟩
    have HNO := Lib.hid hno
    have HV := Lib.hid hv
    clear hno hv
    go_enter Tryz.func76, Tryz.ntmps76
    go_wp2_with fail
    refine (Tryz.strconv_Atoi_ok s (by omega) v HV.out _).mono ?_
    rintro e w1 ⟨rfl, hW⟩
    have hc1 : Chg Never w w1 := by
      rcases hW with rfl | ⟨t, rfl⟩
      · exact Chg.refl _ _
      · exact Chg.of_below (Lib.bytesWorld_below _ _ _)
    clear hW
    by_cases v0 : 0 ≤ v
    · by_cases l3 : s.size ≤ 3
      · have t3 : decide ((s.size : Int) ≤ 3) = true := decide_eq_true (by omega)
        go_wp2_with fail
        refine (Tryz.strconv_Itoa v vb0 (by omega) _ (hg.never hc1).tab).mono ?_
        rintro e w2 ⟨rfl, k, os, rfl⟩
        have hc2 := hc1.trans (chg_grow w1 k os)
        by_cases he : Lib.itoa v = s.data.toList
        · have hyes := Lib.hid (num_of_ok v0 (by rw [← Lib.size_eq]; exact l3) he)
          have ht : ((⟨(Lib.itoa v).toArray⟩ : ByteArray).toList == s.toList) = true := by rw [Lib.toList_data, Lib.toList_data, he]; simp
          clear he HNO
          generalize (⟨(Lib.itoa v).toArray⟩ : ByteArray) = X at ht ⊢
          go_wp2_with fail
          go_ret2
          exact numPost_yes v hvi hyes.out v0 rfl hc2
        · have hn : Hid (numOf s.data.toList = none) := by
            rcases HNO.out with q | q
            · exact q
            · exact absurd q.2.2.2 he
          have ht : ((⟨(Lib.itoa v).toArray⟩ : ByteArray).toList == s.toList) = false := by rw [Lib.toList_data, Lib.toList_data]; simpa using he
          clear he HNO
          generalize (⟨(Lib.itoa v).toArray⟩ : ByteArray) = X at ht ⊢
          go_wp2_with fail
          go_ret2
          exact numPost_no v hvi hn.out rfl hc2
      · have hn : Hid (numOf s.data.toList = none) := by
          rcases HNO.out with q | q
          · exact q
          · exact absurd q.2.2.1 l3
        have t3 : decide ((s.size : Int) ≤ 3) = false := decide_eq_false (by omega)
        clear HNO
        go_wp2_with fail
        go_ret2
        exact numPost_no v hvi hn.out rfl hc1
    · have hn : Hid (numOf s.data.toList = none) := by
        rcases HNO.out with q | q
        · exact q
        · exact absurd q.2.1 v0
      have t0 : decide ((0 : Int) ≤ v) = false := decide_eq_false v0
      clear HNO
      go_wp2_with fail
      go_ret2
      exact numPost_no v hvi hn.out rfl hc1
  · have hn : Hid (numOf s.data.toList = none) := by
      cases hn : numOf s.data.toList with
      | none => rfl
      | some n => exact absurd ⟨_, (num_atoi hn).1⟩ hok
    go_enter Tryz.func76, Tryz.ntmps76
    go_wp2_with fail
    refine (atoi_bad s hs (fun v q => hok ⟨v, q⟩) _ m hg).mono ?_
    rintro e w1 ⟨x, T, p, hx, rfl, hc1⟩
    clear hok
    go_wp2_with fail
    go_ret2
    exact numPost_no x hx hn.out rfl hc1

/-- what read answers: a span's two numbers where it is one -/
def ReadPost (s : ByteArray) (w : World) (e : Ending) (w' : World) : Prop :=
  ∃ x y : Int, e = .returned (.tuple #[.int .i64 x, .int .i64 y, .bool (spanOf s.data.toList).isSome]) ∧ (∀ a n, spanOf s.data.toList = some (a, n) → x = a ∧ y = (n : Int)) ∧ Chg Never w w'
theorem readPost_no {s : ByteArray} {w w' : World} {e : Ending} (x y : Int) (hn : spanOf s.data.toList = none) (he : e = .returned (.tuple #[.int .i64 x, .int .i64 y, .bool false])) (hc : Chg Never w w') : ReadPost s w e w' := by
  refine ⟨x, y, by rw [hn]; exact he, ?_, hc⟩
  intro a n h
  rw [hn] at h; cases h
theorem readPost_yes {s : ByteArray} {w w' : World} {e : Ending} (x : Int) (y : Nat) (hn : spanOf s.data.toList = some (x, y)) (he : e = .returned (.tuple #[.int .i64 x, .int .i64 y, .bool true])) (hc : Chg Never w w') : ReadPost s w e w' := by
  refine ⟨x, y, by rw [hn]; exact he, ?_, hc⟩
  intro a n h
  rw [hn] at h
  injection h with h
  injection h with h1 h2
  exact ⟨h1, by rw [h2]⟩
/-- strings.Cut's parts -/
def cutA (t s : List UInt8) : List UInt8 := match cutSub t s with
  | none => s
  | some p => p.1
def cutB (t s : List UInt8) : List UInt8 := match cutSub t s with
  | none => []
  | some p => p.2
theorem lib_cut {t s : List UInt8} (ht : t ≠ []) : Lib.cut s t = (cutA t s, cutB t s, (cutSub t s).isSome) := by
  have h := cut_index ht s
  unfold Lib.cut cutA cutB
  cases hc : cutSub t s with
  | none =>
    rw [hc] at h
    simp only at h ⊢
    simp [h]
  | some p =>
    rw [hc] at h
    obtain ⟨h1, h2, h3⟩ := h
    simp only
    rw [h1]
    simp [← h2, ← h3]
theorem cutA_len (t s : List UInt8) : (cutA t s).length ≤ s.length := by
  unfold cutA
  cases hc : cutSub t s with
  | none => exact Nat.le_refl _
  | some p => have := congrArg List.length (cut_some (a := p.1) (b := p.2) hc); simp only [List.length_append] at this; simp only; omega
theorem cutB_len (t s : List UInt8) : (cutB t s).length ≤ s.length := by
  unfold cutB
  cases hc : cutSub t s with
  | none => exact Nat.zero_le _
  | some p => have := congrArg List.length (cut_some (a := p.1) (b := p.2) hc); simp only [List.length_append] at this; simp only; omega
theorem span_cut (s : List UInt8) : spanOf s = match numOf (cutA [44] s) with
    | none => none
    | some x => match numOf (cutB [44] s) with
      | none => none
      | some y => if 0 < y then (if x = 0 then none else some ((x : Int) - 1, y)) else some ((x : Int), y) := by
  unfold spanOf cutA cutB
  cases hc : cutSub [44] s with
  | none =>
    simp only
    have : numOf [] = none := rfl
    rw [this]
    cases numOf s <;> rfl
  | some p => rfl

set_option maxHeartbeats 1000000 in
set_option maxRecDepth 100000 in
theorem read_any (s : ByteArray) (hs : s.size ≤ 1000000000) (w : World) (m : Int) (hg : Globs w m) :
    Calls Tryz.prog 53 #[.string s] w (ReadPost s w) := by
  have hsp := span_cut s.data.toList
  have hA := cutA_len [44] s.data.toList
  have hB := cutB_len [44] s.data.toList
  rw [← Lib.size_eq] at hA hB
  obtain ⟨ca, hca⟩ : ∃ x, cutA [44] s.data.toList = x := ⟨_, rfl⟩
  obtain ⟨cb, hcb⟩ : ∃ x, cutB [44] s.data.toList = x := ⟨_, rfl⟩
  have hcut : Hid (Lib.cut s.data.toList (toB [44]).data.toList = (ca, cb, (cutSub [44] s.data.toList).isSome)) := by rw [Hid, toB_data, lib_cut (by simp), hca, hcb]
  rw [hca] at hsp hA
  rw [hcb] at hsp hB
  have HSP := Lib.hid hsp
  clear hsp hca hcb
  go_enter Tryz.func53, Tryz.ntmps53
  go_wp2_with fail
  refine (Tryz.strings_Cut s (toB [44]) m _ (by omega) hg.ml).mono ?_
  rintro e w1 ⟨rfl, nd, rfl⟩
  have hc1 : Chg Never w (w.drewN nd) := (Chg.refl Never w).drewN nd
  rw [hcut.out]
  generalize (cutSub [44] s.data.toList).isSome = fb
  generalize w.drewN nd = w1 at hc1 ⊢
  go_wp2_with fail
  refine (number_any (toB ca) (by rw [toB_size']; omega) _ m (hg.never hc1)).mono ?_
  rintro e w2 ⟨x, hx, rfl, hxn, hc2⟩
  rw [toB_data] at hxn ⊢
  have hc2 := hc1.trans hc2
  go_wp2_with fail
  refine (number_any (toB cb) (by rw [toB_size']; omega) _ m (hg.never hc2)).mono ?_
  rintro e w3 ⟨y, hy, rfl, hyn, hc3⟩
  rw [toB_data] at hyn ⊢
  have hc3 := hc2.trans hc3
  clear hc1 hc2 hcut hA hB
  cases ha : numOf ca with
  | none =>
    have hn : Hid (spanOf s.data.toList = none) := by rw [Hid, HSP.out, ha]
    clear hxn hyn HSP ha
    rw [Option.isSome_none]
    generalize (numOf cb).isSome = fb2
    by_cases hy0 : 0 < y
    · have t0 : decide ((0 : Int) < y) = true := decide_eq_true hy0
      go_wp2_with fail
      go_ret3
      exact readPost_no _ _ hn.out rfl hc3
    · have t0 : decide ((0 : Int) < y) = false := decide_eq_false hy0
      go_wp2_with fail
      go_ret3
      exact readPost_no _ _ hn.out rfl hc3
  | some n1 =>
    have hn1 := numOf_lt ha
    have hx1 := hxn n1 ha
    subst hx1
    rw [Option.isSome_some]
    cases hb : numOf cb with
    | none =>
      have hn : Hid (spanOf s.data.toList = none) := by rw [Hid, HSP.out, ha, hb]
      clear hxn hyn HSP ha hb
      rw [Option.isSome_none]
      by_cases hy0 : 0 < y
      · have t0 : decide ((0 : Int) < y) = true := decide_eq_true hy0
        go_wp2_with fail
        go_ret3
        exact readPost_no _ _ hn.out rfl hc3
      · have t0 : decide ((0 : Int) < y) = false := decide_eq_false hy0
        go_wp2_with fail
        go_ret3
        exact readPost_no _ _ hn.out rfl hc3
    | some n2 =>
      have hn2 := numOf_lt hb
      have hy1 := hyn n2 hb
      subst hy1
      rw [Option.isSome_some]
      have HS : Hid (spanOf s.data.toList = if 0 < n2 then (if n1 = 0 then none else some ((n1 : Int) - 1, n2)) else some ((n1 : Int), n2)) := by rw [Hid, HSP.out, ha, hb]
      clear hxn hyn HSP ha hb
      by_cases h2 : 0 < n2
      · have t0 : decide ((0 : Int) < (n2 : Int)) = true := decide_eq_true (by omega)
        have t0n : decide (0 < n2) = true := decide_eq_true h2
        by_cases h1 : n1 = 0
        · subst h1
          have hn : Hid (spanOf s.data.toList = none) := by rw [Hid, HS.out, if_pos h2, if_pos rfl]
          clear HS
          go_wp2_with fail
          go_ret3
          exact readPost_no _ _ hn.out rfl hc3
        · have hn : Hid (spanOf s.data.toList = some ((n1 : Int) - 1, n2)) := by rw [Hid, HS.out, if_pos h2, if_neg h1]
          have g1 : (0 : Int) ≤ (n1 : Int) - 1 := by omega
          have g2 : (1 : Int) ≤ (n1 : Int) := by omega
          have g3 : decide ((0 : Int) ≤ (n1 : Int) - 1) = true := decide_eq_true g1
          clear HS
          go_wp2_with fail
          go_ret3
          exact readPost_yes _ _ hn.out rfl hc3
      · have t0 : decide ((0 : Int) < (n2 : Int)) = false := decide_eq_false (by omega)
        have t0n : decide (0 < n2) = false := decide_eq_false h2
        have hn : Hid (spanOf s.data.toList = some ((n1 : Int), n2)) := by rw [Hid, HS.out, if_neg h2]
        obtain rfl : n2 = 0 := by omega
        clear HS
        go_wp2_with fail
        go_ret3
        exact readPost_yes _ _ hn.out rfl hc3
end Go.Proofs.YtmojaahkcpgfkaaGreatDoor
namespace Go.Proofs.YtmojaahkcpgfkaaGreatDoor
open Go.RowKit

theorem OwnLast.keepO {e em : TypeId} {w w' : World} {O O' O'' : Nat → Prop} {v : Value} {init : List Hunk} {h : Hunk} {mv : Value} {xs : List Value} (hl : OwnLast e em w O v init h mv xs) (hc : Chg O' w w')
    (k1 : ∀ k, k < w.heap.size → O' k → O k) (k2 : ∀ k, k < w.heap.size → O'' k → O k) : OwnLast e em w' O'' v init h mv xs := by
  obtain ⟨h1, h2, h3, h4, h5⟩ := hl
  have hlt := fun k hk => (h1.lt k hk).2
  refine ⟨⟨h1.1, ?_⟩, fun k hk ho => h2 k hk (k2 k (hlt k hk) ho), fun i x hi => ?_, h4, ?_⟩
  · rcases h1.2 with h | ⟨g', cap', cur, hv, r1, r2, r3⟩
    · exact .inl h
    · subst hv
      exact .inr ⟨g', cap', cur, rfl, r1, (hc.block g' (hlt g' rfl) (fun ho => h2 g' rfl (k1 g' (hlt g' rfl) ho))).trans r2, r3⟩
  · refine Dat.keep (h3 i x hi) hc (fun k hk ho => .inl (.inl (k1 k hk ho))) ?_
    rintro k hk ((ho | ho) | ho)
    · exact .inl (.inl (k2 k hk ho))
    · exact .inl (.inr ho)
    · exact .inr ho
  · refine h5.keep hc (fun k hk ho => .inl (k1 k hk ho)) ?_
    rintro k hk (ho | ho)
    · exact .inl (k2 k hk ho)
    · exact .inr ho

/-- the blocks that a reader's rows avoid: what was there before, and its own box -/
def RdO (W0 B : Nat) : Nat → Prop := fun k => k < W0 ∨ k = B
/-- the blocks that a reader may change: its own box, and what is made from W0 on -/
def RdC (W0 B : Nat) : Nat → Prop := fun k => k = B ∨ W0 ≤ k
structure RdrAt (w : World) (W0 B : Nat) (v : Value) (hs : List Hunk) (o n : Nat) : Prop where
  base : W0 ≤ w.heap.size
  box : Blk3 w B 73 v (.int .i64 o) (.int .i64 n)
  rows : (hs = [] ∧ v = .slice none 0 0) ∨ ∃ init h mv xs, hs = init ++ [h] ∧ OwnLast 42 39 w (RdO W0 B) v init h mv xs
theorem RdrAt.own {w : World} {W0 B : Nat} {v : Value} {hs : List Hunk} {o n : Nat} (h : RdrAt w W0 B v hs o n) : Own 42 w (RdO W0 B) v hs := by
  rcases h.rows with ⟨rfl, rfl⟩ | ⟨init, x, mv, xs, rfl, hl⟩
  · exact own_nil _ _ _
  · exact hl.own
theorem RdrAt.keep {w w' : World} {W0 B : Nat} {v : Value} {hs : List Hunk} {o n : Nat} (h : RdrAt w W0 B v hs o n) (hc : Chg Never w w') : RdrAt w' W0 B v hs o n := by
  refine ⟨Nat.le_trans h.base hc.size, h.box.keep hc (fun x => x), ?_⟩
  rcases h.rows with q | ⟨init, x, mv, xs, e, hl⟩
  · exact .inl q
  · exact .inr ⟨init, x, mv, xs, e, hl.keep hc⟩
theorem RdrAt.new (w : World) : RdrAt (w.alloc (.cells #[.slice none 0 0, .int .i64 0, .int .i64 0] 73)) w.heap.size w.heap.size (.slice none 0 0) [] 0 0 :=
  ⟨Nat.le_of_lt (by simp), Blk3.new w _ _ _ _, .inl ⟨rfl, rfl⟩⟩
theorem RdrAt.start {w : World} {W0 B : Nat} (h : Blk3 w B 73 (.slice none 0 0) (.int .i64 (0 : Nat)) (.int .i64 (0 : Nat))) (hw : W0 ≤ w.heap.size) : RdrAt w W0 B (.slice none 0 0) [] 0 0 := ⟨hw, h, .inl ⟨rfl, rfl⟩⟩
/-- the box's cells may be written -/
theorem RdrAt.set {w w' : World} {W0 B : Nat} {v : Value} {hs : List Hunk} {o n o' n' : Nat} (h : RdrAt w W0 B v hs o n) (hb : Blk3 w' B 73 v (.int .i64 o') (.int .i64 n')) (hc : Chg (fun k => k = B) w w') : RdrAt w' W0 B v hs o' n' := by
  refine ⟨Nat.le_trans h.base hc.size, hb, ?_⟩
  rcases h.rows with q | ⟨init, x, mv, xs, e, hl⟩
  · exact .inl q
  · exact .inr ⟨init, x, mv, xs, e, hl.keepO hc (fun _ _ hk => .inr hk) (fun _ _ hk => hk)⟩
theorem RdrAt.nil {w : World} {W0 B : Nat} {v : Value} {o n : Nat} (h : RdrAt w W0 B v [] o n) : v = .slice none 0 0 := by
  rcases h.rows with ⟨_, q⟩ | ⟨init, x, mv, xs, e, hl⟩
  · exact q
  · simp at e
theorem RdrAt.lt {w : World} {W0 B : Nat} {v : Value} {hs : List Hunk} {o n : Nat} (h : RdrAt w W0 B v hs o n) : B < w.heap.size := h.box.lt
/-- read, it is as any other slice -/
theorem RdrAt.rdv {w : World} {W0 B : Nat} {v : Value} {hs : List Hunk} {o n : Nat} (h : RdrAt w W0 B v hs o n) : Rdv w (RdO W0 B) v hs := h.own.rdv
end Go.Proofs.YtmojaahkcpgfkaaGreatDoor
namespace Go.Proofs.YtmojaahkcpgfkaaGreatDoor
open Go.RowKit

def opnB (o n : Nat) : Bool := decide (0 < o) || decide (0 < n)
theorem opn_true {o n : Nat} (h : 0 < o ∨ 0 < n) : opnB o n = true := by unfold opnB; simpa using h
theorem opn_false {o n : Nat} (h : ¬ (0 < o ∨ 0 < n)) : opnB o n = false := by
  unfold opnB
  rw [decide_eq_false (by omega), decide_eq_false (by omega)]; rfl
set_option maxHeartbeats 1000000 in
theorem rd_open (B : Nat) (v : Value) (o n : Nat) (w : World) (h : Blk3 w B 73 v (.int .i64 o) (.int .i64 n)) :
    Calls Tryz.prog 33 #[.pointer (some ⟨B, 0, none⟩)] w fun e w' => e = .returned (.bool (opnB o n)) ∧ w' = w := by
  obtain ⟨c0, c1, c2⟩ := h.cell
  by_cases ho : 0 < o
  · have HB := Lib.hid (opn_true (o := o) (n := n) (.inl ho))
    have t1 : decide ((0 : Int) < (o : Int)) = true := decide_eq_true (by omega)
    have t1n : decide (0 < o) = true := decide_eq_true ho
    go_enter Tryz.func33, Tryz.ntmps33
    go_wp2_with fail
    go_ret
    exact ⟨by rw [HB.out]; rfl, rfl⟩
  · have t1 : decide ((0 : Int) < (o : Int)) = false := decide_eq_false (by omega)
    have t1n : decide (0 < o) = false := decide_eq_false ho
    by_cases hn : 0 < n
    · have HB := Lib.hid (opn_true (o := o) (n := n) (.inr hn))
      have t2 : decide ((0 : Int) < (n : Int)) = true := decide_eq_true (by omega)
      have t2n : decide (0 < n) = true := decide_eq_true hn
      go_enter Tryz.func33, Tryz.ntmps33
      go_wp2_with fail
      go_ret
      exact ⟨by rw [HB.out]; rfl, rfl⟩
    · have HB := Lib.hid (opn_false (o := o) (n := n) (by omega))
      have t2 : decide ((0 : Int) < (n : Int)) = false := decide_eq_false (by omega)
      have t2n : decide (0 < n) = false := decide_eq_false hn
      go_enter Tryz.func33, Tryz.ntmps33
      go_wp2_with fail
      go_ret
      exact ⟨by rw [HB.out]; rfl, rfl⟩
/-- what a line's reading leaves -/
def LinePost (W0 B : Nat) (hs : List Hunk) (o n : Nat) (s : List UInt8) (w : World) (e : Ending) (w' : World) : Prop :=
  Chg (RdC W0 B) w w' ∧ match readLine hs o n s with
  | none => e = .returned (.bool false)
  | some (hs', o', n') => e = .returned (.bool true) ∧ ∃ v', RdrAt w' W0 B v' hs' o' n'
theorem linePost_no {W0 B o n : Nat} {hs : List Hunk} {s : List UInt8} {w w' : World} {e : Ending} (hr : readLine hs o n s = none) (he : e = .returned (.bool false)) (hc : Chg (RdC W0 B) w w') : LinePost W0 B hs o n s w e w' :=
  ⟨hc, by rw [hr]; exact he⟩
theorem linePost_yes {W0 B o n o' n' : Nat} {hs hs' : List Hunk} {s : List UInt8} {w w' : World} {e : Ending} (hr : readLine hs o n s = some (hs', o', n')) (he : e = .returned (.bool true)) (hc : Chg (RdC W0 B) w w') (hR : ∃ v', RdrAt w' W0 B v' hs' o' n') : LinePost W0 B hs o n s w e w' :=
  ⟨hc, by rw [hr]; exact ⟨he, hR⟩⟩
theorem rl_nil {hs : List Hunk} {o n : Nat} (h : 0 < o ∨ 0 < n) : readLine hs o n [] = none := by unfold readLine; rw [if_pos h]
theorem rl_cons {hs : List Hunk} {o n : Nat} (h : 0 < o ∨ 0 < n) (c : UInt8) (r : List UInt8) : readLine hs o n (c :: r) = if c = 32 ∧ 0 < o ∧ 0 < n then some (addMark hs ⟨32, toB r⟩, o - 1, n - 1)
      else if c = 45 ∧ 0 < o then some (addMark hs ⟨45, toB r⟩, o - 1, n)
      else if c = 43 ∧ 0 < n then some (addMark hs ⟨43, toB r⟩, o, n - 1) else none := by unfold readLine; rw [if_pos h]
theorem byte_ne_int {c d : UInt8} {k : Int} (h : c ≠ d) (hd : (d.toNat : Int) = k) : ((c.toNat : Int) == k) = false := by
  simp only [beq_eq_false_iff_ne, ne_eq]
  intro e
  exact h (UInt8.toNat_inj.1 (by omega))

set_option maxHeartbeats 2000000 in
set_option maxRecDepth 100000 in
theorem reader_mark (W0 B : Nat) (v : Value) (hs : List Hunk) (o n : Nat) (s : ByteArray) (w : World) (h : RdrAt w W0 B v hs o n) (hopen : 0 < o ∨ 0 < n) (hne : hs ≠ []) (hs1 : s.size ≤ 1000000000) (hon : o ≤ 1000000 ∧ n ≤ 1000000)
    (hb : hs.length ≤ 1000000) (hml : ∀ h ∈ hs, h.marks.length ≤ 1000000) :
    Calls Tryz.prog 49 #[.pointer (some ⟨B, 0, none⟩), .string s] w (LinePost W0 B hs o n s.data.toList w) := by
  cases hsl : s.data.toList with
  | nil =>
    have HR := Lib.hid (rl_nil (hs := hs) hopen)
    have t1 : (s.toList == []) = true := by rw [Lib.toList_data, hsl]; rfl
    have t2 : s.toList.isEmpty = true := by rw [Lib.toList_data, hsl]; rfl
    have hsz : s.size = 0 := by rw [Lib.size_eq, hsl]; rfl
    clear hsl hopen hne hml
    go_enter Tryz.func49, Tryz.ntmps49
    go_wp2_with fail
    go_ret
    exact linePost_no HR.out rfl (Chg.refl _ _)
  | cons c r =>
    obtain ⟨init, q, mv, xs, rfl, hlast⟩ : ∃ init q mv xs, hs = init ++ [q] ∧ OwnLast 42 39 w (RdO W0 B) v init q mv xs := by
      rcases h.rows with ⟨q, _⟩ | q
      · exact absurd q hne
      · exact q
    have hbox := h.box
    have hbase := h.base
    have hqm := hml q (by simp)
    have hil : init.length ≤ 1000000 := by rw [List.length_append] at hb; omega
    obtain ⟨g, gcap, rfl, hg1, hg2, hg3, hg4, m2, m0, m1, hfr⟩ := hlast.shape
    have HR := Lib.hid (rl_cons (hs := init ++ [q]) hopen c r)
    have t1 : (s.toList == []) = false := by rw [Lib.toList_data, hsl]; rfl
    have t2 : s.toList.isEmpty = false := by rw [Lib.toList_data, hsl]; rfl
    have hpos : 0 < s.size := by rw [Lib.size_eq, hsl]; simp
    have hc0 : s[0]'hpos = c := by
      have : s.data.toList[0]? = some (s[0]'hpos) := by rw [Array.getElem?_toList, Array.getElem?_eq_getElem hpos]; rfl
      rw [hsl] at this
      injection this with this
      exact this.symm
    have hsx : ∀ wx, (Instr.index 9 (.string s) (.int .i64 0)).run Tryz.prog wx = .ok (.int .u8 c.toNat) wx := fun wx => by
      rw [run_index_string _ _ _ _ _ Tryz.underlying9, dif_pos ⟨by omega, by omega⟩]
      simp only [Int.toNat_zero, hc0]
    have htx : (s.extract 1 s.size) = toB r := by
      apply ByteArray.ext
      apply Array.toList_inj.1
      rw [Lib.extract_data, hsl, toB_data, List.take_of_length_le (by rw [List.length_drop, Lib.size_eq, hsl]; simp)]
      rfl
    have h1s : (1 : Int) ≤ (s.size : Int) := by omega
    have htz : (toB r).size ≤ maxLen := by rw [toB_size', ]; have := Lib.size_eq s; rw [hsl] at this; simp at this; unfold maxLen; omega
    obtain ⟨tx, htxe⟩ : ∃ tx, toB r = tx := ⟨_, rfl⟩
    rw [htxe] at htx htz HR
    clear hsl hne hml hb hc0 htxe h
    go_enter Tryz.func49, Tryz.ntmps49
    go_wp2_with fail
    refine wp_region_held_drew (S := fun w' => Chg Never w w') (by kernel_rfl) (Chg.refl Never w).drew (fun hH => ?_)
    refine' wpAnyH_take (i := 0) ?hi0 (by kernel_rfl) (by kernel_rfl) (by kernel_rfl) ?hQ0 (Or.inl ⟨?hw0, ?hy0⟩) (by assumption) ?_
    case hi0 => (simp only [List.getElem?_toArray, List.getElem?_cons_succ, List.getElem?_cons_zero]; rfl)
    case hQ0 => exact fun _ _ _ h => h
    case hw0 => rfl
    case hy0 => (intro w' hSw; (try dsimp only at hSw); go_simp; all_goals with_reducible rfl)
    try simp only [Act.put, List.setIfInBounds_toArray, List.set_cons_zero, List.set_cons_succ]
    refine' wpAnyH_take (i := 1) ?hi1 (by kernel_rfl) (by kernel_rfl) (by kernel_rfl) ?hQ1 (Or.inl ⟨?hw1, ?hy1⟩) (by assumption) ?_
    case hi1 => (simp only [List.getElem?_toArray, List.getElem?_cons_succ, List.getElem?_cons_zero]; rfl)
    case hQ1 => exact fun _ _ _ h => h
    case hw1 => rfl
    case hy1 => (intro w' hSw; (try dsimp only at hSw); go_simp; all_goals with_reducible rfl)
    try simp only [Act.put, List.setIfInBounds_toArray, List.set_cons_zero, List.set_cons_succ]
    refine' wpAnyH_take (i := 2) ?hi2 (by kernel_rfl) (by kernel_rfl) (by kernel_rfl) ?hQ2 (Or.inl ⟨?hw2, ?hy2⟩) (by assumption) ?_
    case hi2 => (simp only [List.getElem?_toArray, List.getElem?_cons_succ, List.getElem?_cons_zero]; rfl)
    case hQ2 => exact fun _ _ _ h => h
    case hw2 => rfl
    case hy2 => (intro w' hSw; (try dsimp only at hSw); go_simp; all_goals with_reducible rfl)
    try simp only [Act.put, List.setIfInBounds_toArray, List.set_cons_zero, List.set_cons_succ]
    refine' wpAnyH_take (i := 3) ?hi3 (by kernel_rfl) (by kernel_rfl) (by kernel_rfl) ?hQ3 (Or.inl ⟨?hw3, ?hy3⟩) (by assumption) ?_
    case hi3 => (simp only [List.getElem?_toArray, List.getElem?_cons_succ, List.getElem?_cons_zero]; rfl)
    case hQ3 => exact fun _ _ _ h => h
    case hw3 => rfl
    case hy3 => (intro w' hSw; (try dsimp only at hSw); go_simp; all_goals with_reducible rfl)
    try simp only [Act.put, List.setIfInBounds_toArray, List.set_cons_zero, List.set_cons_succ]
    refine' wpAnyH_take (i := 4) ?hi4 (by kernel_rfl) (by kernel_rfl) (by kernel_rfl) ?hQ4 (Or.inl ⟨?hw4, ?hy4⟩) (by assumption) ?_
    case hi4 => (simp only [List.getElem?_toArray, List.getElem?_cons_succ, List.getElem?_cons_zero]; rfl)
    case hQ4 => exact fun _ _ _ h => h
    case hw4 => rfl
    case hy4 => (intro w' hSw; (try dsimp only at hSw); go_simp; all_goals with_reducible rfl)
    try simp only [Act.put, List.setIfInBounds_toArray, List.set_cons_zero, List.set_cons_succ]
    refine wpAnyH_ready (rs := [5]) (by kernel_rfl) (by simp) ?_
    refine AllReadyH.cons rfl (fun K hK => ?_) AllReadyH.nil
    go_simp
    refine hK.out _ _ ?_ (fun hH => ?_)
    · exact Chg.alloc (by assumption) _
    clear hK K
    try simp only [Act.put, List.setIfInBounds_toArray, List.set_cons_zero, List.set_cons_succ]
    refine wpAnyH_ready (rs := [6]) (by kernel_rfl) (by simp) ?_
    refine AllReadyH.cons rfl (fun K hK => ?_) AllReadyH.nil
    go_simp
    refine hK.out _ _ ?_ (fun hH => ?_)
    · exact ((Chg.refl Never w).alloc _).drew
    clear hK K
    try simp only [Act.put, List.setIfInBounds_toArray, List.set_cons_zero, List.set_cons_succ]
    refine wpAnyH_done (by kernel_rfl) ?_ _
    have hA : Chg Never w (w.alloc (.cells #[.int .u8 c.toNat, .string tx] 39)).drew := ((Chg.refl Never w).alloc _).drew
    have hxb := Blk2.new w 39 (.int .u8 c.toNat) (.string tx)
    have hxb : Blk2 (w.alloc (.cells #[.int .u8 c.toNat, .string tx] 39)).drew w.heap.size 39 (.int .u8 c.toNat) (.string tx) := hxb
    have hmlt := own_block_lt hlast.marks
    have hMne : w.heap.size ≠ B := by have := hbox.lt; omega
    have hMg : w.heap.size ≠ g := by omega
    have hbox := hbox.keep hA (fun h => h)
    have hlast := hlast.keep hA
    have hM1 : w.heap.size < (w.alloc (.cells #[.int .u8 c.toNat, .string tx] 39)).drew.heap.size := hxb.lt
    have hA2 := hA
    obtain ⟨M, hM⟩ : ∃ M, w.heap.size = M := ⟨_, rfl⟩
    generalize (w.alloc (.cells #[.int .u8 c.toNat, .string tx] 39)).drew = w1 at hA hA2 hxb hbox hlast hM1 ⊢
    have hmM : ∀ k, mv.ownBlock = some k → k < M := fun k hk => by rw [← hM]; exact hmlt k hk
    rw [hM] at hxb hMne hMg hM1 ⊢
    have HM := Lib.hid hM
    clear hM hmlt hA m2 m0 m1 hfr hg1 hsx
    obtain ⟨x0, x1⟩ := hxb.cell
    obtain ⟨c0, c1, c2⟩ := hbox.cell
    have hf1 := hbox.free 1
    have hf2 := hbox.free 2
    by_cases h32 : c = 32
    · have q32 : ((c.toNat : Int) == 32) = true := by rw [h32]; rfl
      have q45 : ((c.toNat : Int) == 45) = false := by rw [h32]; rfl
      have q43 : ((c.toNat : Int) == 43) = false := by rw [h32]; rfl
      by_cases ho : 0 < o
      · have tO : decide ((0 : Int) < (o : Int)) = true := decide_eq_true (by omega)
        have ton : decide (0 < o) = true := decide_eq_true ho
        by_cases hn : 0 < n
        · have hr : Hid (readLine (init ++ [q]) o n (c :: r) = some (init ++ [⟨q.old, q.new, q.marks ++ [⟨(c.toNat : Int), tx⟩]⟩], o - 1, n - 1)) := by
            rw [Hid, HR.out, if_pos ⟨h32, ho, hn⟩, add_mark, h32]; rfl
          obtain ⟨o1, rfl⟩ : ∃ o1, o = o1 + 1 := ⟨o - 1, by omega⟩
          obtain ⟨n1, rfl⟩ : ∃ n1, n = n1 + 1 := ⟨n - 1, by omega⟩
          clear h32 ho hn tO ton HR hopen
          have eo : (((o1 + 1 : Nat) : Int) - 1) = (o1 : Int) := by omega
          go_upto_region 12 with fail
          clear eo
          have hboxS : Blk3 ((w1.setCell ⟨B, 1, none⟩ (.int .i64 (o1 : Nat))).setCell ⟨B, 2, none⟩ (.int .i64 (n1 : Nat))) B 73 (.slice (some ⟨g, 0, none⟩) (init.length + 1) gcap) (.int .i64 (o1 : Nat)) (.int .i64 (n1 : Nat)) := (hbox.set1 _).set2 _
          have hS : Chg (fun k => k = B) w1 ((w1.setCell ⟨B, 1, none⟩ (.int .i64 (o1 : Nat))).setCell ⟨B, 2, none⟩ (.int .i64 (n1 : Nat))) := ((Chg.refl (fun k => k = B) w1).setCell (p := ⟨B, 1, none⟩) (.inr rfl) _).setCell (p := ⟨B, 2, none⟩) (.inr rfl) _
          have hlastS := hlast.keepO (O'' := RdO W0 B) hS (fun _ _ hk => .inr hk) (fun _ _ hk => hk)
          have x0 := hS.cell x0 hMne
          have x1 := hS.cell x1 hMne
          have hMS := Nat.lt_of_lt_of_le hM1 hS.size
          have hcS : Chg (RdC W0 B) w ((w1.setCell ⟨B, 1, none⟩ (.int .i64 (o1 : Nat))).setCell ⟨B, 2, none⟩ (.int .i64 (n1 : Nat))) := (hA2.mono (fun _ _ h => h.elim)).trans (hS.mono (fun k _ hk => .inl hk))
          clear hbox hlast hA2 hM1 hxb c0 c1 c2 hf1 hf2
          generalize (w1.setCell ⟨B, 1, none⟩ (.int .i64 (o1 : Nat))).setCell ⟨B, 2, none⟩ (.int .i64 (n1 : Nat)) = w2 at hboxS hS hlastS x0 x1 hMS hcS ⊢
          clear hS
          obtain ⟨g', gcap', hq, hg1, -, -, -, m2, m0, m1, hfr⟩ := hlastS.shape
          simp only [Value.slice.injEq, Option.some.injEq, Addr.mk.injEq, and_true, true_and] at hq
          obtain ⟨rfl, rfl⟩ := hq
          obtain ⟨c0, -, -⟩ := hboxS.cell
          have sw : IntKind.i64.wrap ((init.length : Int) + 1 - 1) = init.length := by rw [show (init.length : Int) + 1 - 1 = (init.length : Int) by omega]; exact IntWalk.i64_in _ (by omega)
          have sw2 : IntKind.i64.wrap (init.length : Int) = init.length := IntWalk.i64_in _ (by omega)
          have si : (init.length : Int) < (init.length : Int) + 1 := by omega
          go_quiet (fail)
          clear sw sw2 si c0
          have hq3 : Chg Never w2 (w2.drewN nq) := (Chg.refl Never w2).drewN nq
          have hlast3 := hlastS.keep hq3
          have hbox3 := hboxS.keep hq3 (fun h => h)
          have x0 : (w2.drewN nq).cell? ⟨M, 0, none⟩ = some (.int .u8 c.toNat) := x0
          have x1 : (w2.drewN nq).cell? ⟨M, 1, none⟩ = some (.string tx) := x1
          have m2 : (w2.drewN nq).cell? ⟨g, init.length * 3 + 2, none⟩ = some mv := m2
          have hfr : ∀ j, (w2.drewN nq).frozen? ⟨g, j, none⟩ = false := hfr
          have hg1 : g < (w2.drewN nq).heap.size := hg1
          have hc3 : Chg (RdC W0 B) w (w2.drewN nq) := hcS.trans (hq3.mono (fun _ _ h => h.elim))
          clear hlastS hboxS hq3 m0 m1 hcS
          generalize w2.drewN nq = w3 at hlast3 hbox3 x0 x1 m2 hfr hg1 hc3 ⊢
          go_wp2_with fail
          have hcd : Chg Never w3 w3.drew := (Chg.refl Never w3).drew
          have hmL := hlast3.keep hcd
          have hboxD := hbox3.keep hcd (fun h => h)
          have x0 : w3.drew.cell? ⟨M, 0, none⟩ = some (.int .u8 c.toNat) := x0
          have x1 : w3.drew.cell? ⟨M, 1, none⟩ = some (.string tx) := x1
          have m2 : w3.drew.cell? ⟨g, init.length * 3 + 2, none⟩ = some mv := m2
          have hfr : ∀ j, w3.drew.frozen? ⟨g, j, none⟩ = false := hfr
          have hg1 : g < w3.drew.heap.size := hg1
          have hcD : Chg (RdC W0 B) w w3.drew := hc3.trans (hcd.mono (fun _ _ h => h.elim))
          have hgM : ¬ OwnB mv g := by
            obtain ⟨_, _, qq, _⟩ := hmL.marks
            exact fun hh => qq g hh (.inr rfl)
          have hBM : ¬ OwnB mv B := by
            obtain ⟨_, _, qq, _⟩ := hmL.marks
            exact fun hh => qq B hh (.inl (.inr rfl))
          have hxM : ¬ OwnB mv M := fun hh => Nat.lt_irrefl _ (hmM M hh)
          have hgB : g ≠ B := fun e => hg2 (.inr e)
          have hgW : W0 ≤ g := by
            rcases Nat.lt_or_ge g W0 with h | h
            · exact absurd (.inl h) hg2
            · exact h
          have hmW : ∀ k, OwnB mv k → W0 ≤ k := fun k hk => by
            obtain ⟨_, _, qq, _⟩ := hmL.marks
            rcases Nat.lt_or_ge k W0 with h | h
            · exact absurd (.inl (.inl h)) (qq k hk)
            · exact h
          have hO : ∀ k, (RdO W0 B k ∨ (Value.slice (some ⟨g, 0, none⟩) (init.length + 1) gcap).ownBlock = some k) → k < w3.drew.heap.size := by
            have hBl := hboxD.lt
            rintro k ((h | rfl) | h)
            · have := hcD.size; omega
            · exact hBl
            · cases h; exact hg1
          have s0 : (0 : Int) ≤ (c.toNat : Int) := by omega
          have s1 : (c.toNat : Int) < 256 := by have := c.toNat_lt; omega
          have hlm : q.marks.length ≤ 1000000000 := by omega
          clear hlast3 hbox3 hcd hc3
          go_region_law ((refine step_push (by rfl) _ _ 40 (by rfl) elemOk_mark (O := fun k => RdO W0 B k ∨ (Value.slice (some ⟨g, 0, none⟩) (init.length + 1) gcap).ownBlock = some k) (l := q.marks) (y := ⟨(c.toNat : Int), tx⟩) (by rfl) (by rfl) (by simp) hmL.marks (rd_mark _ _ _ tx s0 s1 htz) hO hlm ?_; intro v' w5 hown2 hc2 hk2; obtain ⟨ad, nn, cc, rfl⟩ := own_slice hk2; have hfr5 : w5.frozen? ⟨g, init.length * 3 + 2, none⟩ = false := (hc2.frozen (p := ⟨g, init.length * 3 + 2, none⟩) hg1 hgM).trans (hfr _); have hcl5 : w5.cell? ⟨g, init.length * 3 + 2, none⟩ = some mv := hc2.cell (p := ⟨g, init.length * 3 + 2, none⟩) m2 hgM; have hb0 : w5.cell? ⟨M, 0, none⟩ = some (.int .u8 c.toNat) := hc2.cell (p := ⟨M, 0, none⟩) x0 hxM; have hb1 : w5.cell? ⟨M, 1, none⟩ = some (.string tx) := hc2.cell (p := ⟨M, 1, none⟩) x1 hxM))
          all_goals go_wp2_with fail
          all_goals
            have hst := OwnLast.stored hmL hown2 hc2 hk2
            have hbF := (hboxD.keep hc2 hBM).keep ((Chg.refl (fun k => k = g) w5).setCell (p := ⟨g, init.length * 3 + 2, none⟩) (.inr rfl) (.slice (some ad) nn cc)) (fun h => hgB h.symm)
            have hcF : Chg (RdC W0 B) w (w5.setCell ⟨g, init.length * 3 + 2, none⟩ (.slice (some ad) nn cc)) := (hcD.trans (hc2.mono (O' := RdC W0 B) (fun k _ hk => .inr (hmW k hk)))).setCell (.inr (show RdC W0 B g from .inr hgW)) _
            go_ret
            exact linePost_yes hr.out rfl hcF ⟨_, ⟨Nat.le_trans hbase hcF.size, hbF, .inr ⟨init, _, _, _, rfl, hst⟩⟩⟩
        · have tn : decide ((0 : Int) < (n : Int)) = false := decide_eq_false (by omega)
          have tnn : decide (0 < n) = false := decide_eq_false hn
          have hr : Hid (readLine (init ++ [q]) o n (c :: r) = none) := by
            rw [Hid, HR.out]
            rw [if_neg (fun q => hn q.2.2), if_neg (fun q => by rw [h32] at q; exact absurd q.1 (by decide)), if_neg (fun q => by rw [h32] at q; exact absurd q.1 (by decide))]
          have hcN : Chg (RdC W0 B) w w1 := hA2.mono (fun _ _ h => h.elim)
          clear HR hopen hlast hbox hA2
          go_wp2_with fail
          go_ret
          exact linePost_no hr.out rfl hcN
      · have tO : decide ((0 : Int) < (o : Int)) = false := decide_eq_false (by omega)
        have ton : decide (0 < o) = false := decide_eq_false ho
        have hr : Hid (readLine (init ++ [q]) o n (c :: r) = none) := by
          rw [Hid, HR.out]
          rw [if_neg (fun q => ho q.2.1), if_neg (fun q => ho q.2), if_neg (fun q => by rw [h32] at q; exact absurd q.1 (by decide))]
        have hcN : Chg (RdC W0 B) w w1 := hA2.mono (fun _ _ h => h.elim)
        clear HR hopen hlast hbox hA2
        go_wp2_with fail
        go_ret
        exact linePost_no hr.out rfl hcN
    · have q32 : ((c.toNat : Int) == 32) = false := byte_ne_int h32 rfl
      by_cases h45 : c = 45
      · have q45 : ((c.toNat : Int) == 45) = true := by rw [h45]; rfl
        have q43 : ((c.toNat : Int) == 43) = false := by rw [h45]; rfl
        by_cases ho : 0 < o
        · have tO : decide ((0 : Int) < (o : Int)) = true := decide_eq_true (by omega)
          have hr : Hid (readLine (init ++ [q]) o n (c :: r) = some (init ++ [⟨q.old, q.new, q.marks ++ [⟨(c.toNat : Int), tx⟩]⟩], o - 1, n)) := by
            rw [Hid, HR.out, if_neg (fun q => h32 q.1), if_pos ⟨h45, ho⟩, add_mark, h45]; rfl
          obtain ⟨o1, rfl⟩ : ∃ o1, o = o1 + 1 := ⟨o - 1, by omega⟩
          clear h32 h45 ho tO HR hopen
          go_upto_region 12 with fail
          have hboxS : Blk3 (w1.setCell ⟨B, 1, none⟩ (.int .i64 (o1 : Nat))) B 73 (.slice (some ⟨g, 0, none⟩) (init.length + 1) gcap) (.int .i64 (o1 : Nat)) (.int .i64 (n : Nat)) := hbox.set1 _
          have hS : Chg (fun k => k = B) w1 (w1.setCell ⟨B, 1, none⟩ (.int .i64 (o1 : Nat))) := (Chg.refl (fun k => k = B) w1).setCell (p := ⟨B, 1, none⟩) (.inr rfl) _
          have hlastS := hlast.keepO (O'' := RdO W0 B) hS (fun _ _ hk => .inr hk) (fun _ _ hk => hk)
          have x0 := hS.cell x0 hMne
          have x1 := hS.cell x1 hMne
          have hMS := Nat.lt_of_lt_of_le hM1 hS.size
          have hcS : Chg (RdC W0 B) w (w1.setCell ⟨B, 1, none⟩ (.int .i64 (o1 : Nat))) := (hA2.mono (fun _ _ h => h.elim)).trans (hS.mono (fun k _ hk => .inl hk))
          clear hbox hlast hA2 hM1 hxb c0 c1 c2 hf1 hf2
          generalize w1.setCell ⟨B, 1, none⟩ (.int .i64 (o1 : Nat)) = w2 at hboxS hS hlastS x0 x1 hMS hcS ⊢
          clear hS
          obtain ⟨g', gcap', hq, hg1, -, -, -, m2, m0, m1, hfr⟩ := hlastS.shape
          simp only [Value.slice.injEq, Option.some.injEq, Addr.mk.injEq, and_true, true_and] at hq
          obtain ⟨rfl, rfl⟩ := hq
          obtain ⟨c0, -, -⟩ := hboxS.cell
          have sw : IntKind.i64.wrap ((init.length : Int) + 1 - 1) = init.length := by rw [show (init.length : Int) + 1 - 1 = (init.length : Int) by omega]; exact IntWalk.i64_in _ (by omega)
          have sw2 : IntKind.i64.wrap (init.length : Int) = init.length := IntWalk.i64_in _ (by omega)
          have si : (init.length : Int) < (init.length : Int) + 1 := by omega
          go_quiet (fail)
          clear sw sw2 si c0
          have hq3 : Chg Never w2 (w2.drewN nq) := (Chg.refl Never w2).drewN nq
          have hlast3 := hlastS.keep hq3
          have hbox3 := hboxS.keep hq3 (fun h => h)
          have x0 : (w2.drewN nq).cell? ⟨M, 0, none⟩ = some (.int .u8 c.toNat) := x0
          have x1 : (w2.drewN nq).cell? ⟨M, 1, none⟩ = some (.string tx) := x1
          have m2 : (w2.drewN nq).cell? ⟨g, init.length * 3 + 2, none⟩ = some mv := m2
          have hfr : ∀ j, (w2.drewN nq).frozen? ⟨g, j, none⟩ = false := hfr
          have hg1 : g < (w2.drewN nq).heap.size := hg1
          have hc3 : Chg (RdC W0 B) w (w2.drewN nq) := hcS.trans (hq3.mono (fun _ _ h => h.elim))
          clear hlastS hboxS hq3 m0 m1 hcS
          generalize w2.drewN nq = w3 at hlast3 hbox3 x0 x1 m2 hfr hg1 hc3 ⊢
          go_wp2_with fail
          have hcd : Chg Never w3 w3.drew := (Chg.refl Never w3).drew
          have hmL := hlast3.keep hcd
          have hboxD := hbox3.keep hcd (fun h => h)
          have x0 : w3.drew.cell? ⟨M, 0, none⟩ = some (.int .u8 c.toNat) := x0
          have x1 : w3.drew.cell? ⟨M, 1, none⟩ = some (.string tx) := x1
          have m2 : w3.drew.cell? ⟨g, init.length * 3 + 2, none⟩ = some mv := m2
          have hfr : ∀ j, w3.drew.frozen? ⟨g, j, none⟩ = false := hfr
          have hg1 : g < w3.drew.heap.size := hg1
          have hcD : Chg (RdC W0 B) w w3.drew := hc3.trans (hcd.mono (fun _ _ h => h.elim))
          have hgM : ¬ OwnB mv g := by
            obtain ⟨_, _, qq, _⟩ := hmL.marks
            exact fun hh => qq g hh (.inr rfl)
          have hBM : ¬ OwnB mv B := by
            obtain ⟨_, _, qq, _⟩ := hmL.marks
            exact fun hh => qq B hh (.inl (.inr rfl))
          have hxM : ¬ OwnB mv M := fun hh => Nat.lt_irrefl _ (hmM M hh)
          have hgB : g ≠ B := fun e => hg2 (.inr e)
          have hgW : W0 ≤ g := by
            rcases Nat.lt_or_ge g W0 with h | h
            · exact absurd (.inl h) hg2
            · exact h
          have hmW : ∀ k, OwnB mv k → W0 ≤ k := fun k hk => by
            obtain ⟨_, _, qq, _⟩ := hmL.marks
            rcases Nat.lt_or_ge k W0 with h | h
            · exact absurd (.inl (.inl h)) (qq k hk)
            · exact h
          have hO : ∀ k, (RdO W0 B k ∨ (Value.slice (some ⟨g, 0, none⟩) (init.length + 1) gcap).ownBlock = some k) → k < w3.drew.heap.size := by
            have hBl := hboxD.lt
            rintro k ((h | rfl) | h)
            · have := hcD.size; omega
            · exact hBl
            · cases h; exact hg1
          have s0 : (0 : Int) ≤ (c.toNat : Int) := by omega
          have s1 : (c.toNat : Int) < 256 := by have := c.toNat_lt; omega
          have hlm : q.marks.length ≤ 1000000000 := by omega
          clear hlast3 hbox3 hcd hc3
          go_region_law ((refine step_push (by rfl) _ _ 40 (by rfl) elemOk_mark (O := fun k => RdO W0 B k ∨ (Value.slice (some ⟨g, 0, none⟩) (init.length + 1) gcap).ownBlock = some k) (l := q.marks) (y := ⟨(c.toNat : Int), tx⟩) (by rfl) (by rfl) (by simp) hmL.marks (rd_mark _ _ _ tx s0 s1 htz) hO hlm ?_; intro v' w5 hown2 hc2 hk2; obtain ⟨ad, nn, cc, rfl⟩ := own_slice hk2; have hfr5 : w5.frozen? ⟨g, init.length * 3 + 2, none⟩ = false := (hc2.frozen (p := ⟨g, init.length * 3 + 2, none⟩) hg1 hgM).trans (hfr _); have hcl5 : w5.cell? ⟨g, init.length * 3 + 2, none⟩ = some mv := hc2.cell (p := ⟨g, init.length * 3 + 2, none⟩) m2 hgM; have hb0 : w5.cell? ⟨M, 0, none⟩ = some (.int .u8 c.toNat) := hc2.cell (p := ⟨M, 0, none⟩) x0 hxM; have hb1 : w5.cell? ⟨M, 1, none⟩ = some (.string tx) := hc2.cell (p := ⟨M, 1, none⟩) x1 hxM))
          all_goals go_wp2_with fail
          all_goals
            have hst := OwnLast.stored hmL hown2 hc2 hk2
            have hbF := (hboxD.keep hc2 hBM).keep ((Chg.refl (fun k => k = g) w5).setCell (p := ⟨g, init.length * 3 + 2, none⟩) (.inr rfl) (.slice (some ad) nn cc)) (fun h => hgB h.symm)
            have hcF : Chg (RdC W0 B) w (w5.setCell ⟨g, init.length * 3 + 2, none⟩ (.slice (some ad) nn cc)) := (hcD.trans (hc2.mono (O' := RdC W0 B) (fun k _ hk => .inr (hmW k hk)))).setCell (.inr (show RdC W0 B g from .inr hgW)) _
            go_ret
            exact linePost_yes hr.out rfl hcF ⟨_, ⟨Nat.le_trans hbase hcF.size, hbF, .inr ⟨init, _, _, _, rfl, hst⟩⟩⟩
        · have tO : decide ((0 : Int) < (o : Int)) = false := decide_eq_false (by omega)
          have ton : decide (0 < o) = false := decide_eq_false ho
          have hr : Hid (readLine (init ++ [q]) o n (c :: r) = none) := by
            rw [Hid, HR.out]
            rw [if_neg (fun q => ho q.2.1), if_neg (fun q => ho q.2), if_neg (fun q => by rw [h45] at q; exact absurd q.1 (by decide))]
          have hcN : Chg (RdC W0 B) w w1 := hA2.mono (fun _ _ h => h.elim)
          clear HR hopen hlast hbox hA2
          go_wp2_with fail
          go_ret
          exact linePost_no hr.out rfl hcN
      · have q45 : ((c.toNat : Int) == 45) = false := byte_ne_int h45 rfl
        by_cases h43 : c = 43
        · have q43 : ((c.toNat : Int) == 43) = true := by rw [h43]; rfl
          by_cases hn : 0 < n
          · have tn : decide ((0 : Int) < (n : Int)) = true := decide_eq_true (by omega)
            have hr : Hid (readLine (init ++ [q]) o n (c :: r) = some (init ++ [⟨q.old, q.new, q.marks ++ [⟨(c.toNat : Int), tx⟩]⟩], o, n - 1)) := by
              rw [Hid, HR.out, if_neg (fun q => h32 q.1), if_neg (fun q => h45 q.1), if_pos ⟨h43, hn⟩, add_mark, h43]; rfl
            obtain ⟨n1, rfl⟩ : ∃ n1, n = n1 + 1 := ⟨n - 1, by omega⟩
            clear h32 h45 h43 hn tn HR hopen
            go_upto_region 12 with fail
            have hboxS : Blk3 (w1.setCell ⟨B, 2, none⟩ (.int .i64 (n1 : Nat))) B 73 (.slice (some ⟨g, 0, none⟩) (init.length + 1) gcap) (.int .i64 (o : Nat)) (.int .i64 (n1 : Nat)) := hbox.set2 _
            have hS : Chg (fun k => k = B) w1 (w1.setCell ⟨B, 2, none⟩ (.int .i64 (n1 : Nat))) := (Chg.refl (fun k => k = B) w1).setCell (p := ⟨B, 2, none⟩) (.inr rfl) _
            have hlastS := hlast.keepO (O'' := RdO W0 B) hS (fun _ _ hk => .inr hk) (fun _ _ hk => hk)
            have x0 := hS.cell x0 hMne
            have x1 := hS.cell x1 hMne
            have hMS := Nat.lt_of_lt_of_le hM1 hS.size
            have hcS : Chg (RdC W0 B) w (w1.setCell ⟨B, 2, none⟩ (.int .i64 (n1 : Nat))) := (hA2.mono (fun _ _ h => h.elim)).trans (hS.mono (fun k _ hk => .inl hk))
            clear hbox hlast hA2 hM1 hxb c0 c1 c2 hf1 hf2
            generalize w1.setCell ⟨B, 2, none⟩ (.int .i64 (n1 : Nat)) = w2 at hboxS hS hlastS x0 x1 hMS hcS ⊢
            clear hS
            obtain ⟨g', gcap', hq, hg1, -, -, -, m2, m0, m1, hfr⟩ := hlastS.shape
            simp only [Value.slice.injEq, Option.some.injEq, Addr.mk.injEq, and_true, true_and] at hq
            obtain ⟨rfl, rfl⟩ := hq
            obtain ⟨c0, -, -⟩ := hboxS.cell
            have sw : IntKind.i64.wrap ((init.length : Int) + 1 - 1) = init.length := by rw [show (init.length : Int) + 1 - 1 = (init.length : Int) by omega]; exact IntWalk.i64_in _ (by omega)
            have sw2 : IntKind.i64.wrap (init.length : Int) = init.length := IntWalk.i64_in _ (by omega)
            have si : (init.length : Int) < (init.length : Int) + 1 := by omega
            go_quiet (fail)
            clear sw sw2 si c0
            have hq3 : Chg Never w2 (w2.drewN nq) := (Chg.refl Never w2).drewN nq
            have hlast3 := hlastS.keep hq3
            have hbox3 := hboxS.keep hq3 (fun h => h)
            have x0 : (w2.drewN nq).cell? ⟨M, 0, none⟩ = some (.int .u8 c.toNat) := x0
            have x1 : (w2.drewN nq).cell? ⟨M, 1, none⟩ = some (.string tx) := x1
            have m2 : (w2.drewN nq).cell? ⟨g, init.length * 3 + 2, none⟩ = some mv := m2
            have hfr : ∀ j, (w2.drewN nq).frozen? ⟨g, j, none⟩ = false := hfr
            have hg1 : g < (w2.drewN nq).heap.size := hg1
            have hc3 : Chg (RdC W0 B) w (w2.drewN nq) := hcS.trans (hq3.mono (fun _ _ h => h.elim))
            clear hlastS hboxS hq3 m0 m1 hcS
            generalize w2.drewN nq = w3 at hlast3 hbox3 x0 x1 m2 hfr hg1 hc3 ⊢
            go_wp2_with fail
            have hcd : Chg Never w3 w3.drew := (Chg.refl Never w3).drew
            have hmL := hlast3.keep hcd
            have hboxD := hbox3.keep hcd (fun h => h)
            have x0 : w3.drew.cell? ⟨M, 0, none⟩ = some (.int .u8 c.toNat) := x0
            have x1 : w3.drew.cell? ⟨M, 1, none⟩ = some (.string tx) := x1
            have m2 : w3.drew.cell? ⟨g, init.length * 3 + 2, none⟩ = some mv := m2
            have hfr : ∀ j, w3.drew.frozen? ⟨g, j, none⟩ = false := hfr
            have hg1 : g < w3.drew.heap.size := hg1
            have hcD : Chg (RdC W0 B) w w3.drew := hc3.trans (hcd.mono (fun _ _ h => h.elim))
            have hgM : ¬ OwnB mv g := by
              obtain ⟨_, _, qq, _⟩ := hmL.marks
              exact fun hh => qq g hh (.inr rfl)
            have hBM : ¬ OwnB mv B := by
              obtain ⟨_, _, qq, _⟩ := hmL.marks
              exact fun hh => qq B hh (.inl (.inr rfl))
            have hxM : ¬ OwnB mv M := fun hh => Nat.lt_irrefl _ (hmM M hh)
            have hgB : g ≠ B := fun e => hg2 (.inr e)
            have hgW : W0 ≤ g := by
              rcases Nat.lt_or_ge g W0 with h | h
              · exact absurd (.inl h) hg2
              · exact h
            have hmW : ∀ k, OwnB mv k → W0 ≤ k := fun k hk => by
              obtain ⟨_, _, qq, _⟩ := hmL.marks
              rcases Nat.lt_or_ge k W0 with h | h
              · exact absurd (.inl (.inl h)) (qq k hk)
              · exact h
            have hO : ∀ k, (RdO W0 B k ∨ (Value.slice (some ⟨g, 0, none⟩) (init.length + 1) gcap).ownBlock = some k) → k < w3.drew.heap.size := by
              have hBl := hboxD.lt
              rintro k ((h | rfl) | h)
              · have := hcD.size; omega
              · exact hBl
              · cases h; exact hg1
            have s0 : (0 : Int) ≤ (c.toNat : Int) := by omega
            have s1 : (c.toNat : Int) < 256 := by have := c.toNat_lt; omega
            have hlm : q.marks.length ≤ 1000000000 := by omega
            clear hlast3 hbox3 hcd hc3
            go_region_law ((refine step_push (by rfl) _ _ 40 (by rfl) elemOk_mark (O := fun k => RdO W0 B k ∨ (Value.slice (some ⟨g, 0, none⟩) (init.length + 1) gcap).ownBlock = some k) (l := q.marks) (y := ⟨(c.toNat : Int), tx⟩) (by rfl) (by rfl) (by simp) hmL.marks (rd_mark _ _ _ tx s0 s1 htz) hO hlm ?_; intro v' w5 hown2 hc2 hk2; obtain ⟨ad, nn, cc, rfl⟩ := own_slice hk2; have hfr5 : w5.frozen? ⟨g, init.length * 3 + 2, none⟩ = false := (hc2.frozen (p := ⟨g, init.length * 3 + 2, none⟩) hg1 hgM).trans (hfr _); have hcl5 : w5.cell? ⟨g, init.length * 3 + 2, none⟩ = some mv := hc2.cell (p := ⟨g, init.length * 3 + 2, none⟩) m2 hgM; have hb0 : w5.cell? ⟨M, 0, none⟩ = some (.int .u8 c.toNat) := hc2.cell (p := ⟨M, 0, none⟩) x0 hxM; have hb1 : w5.cell? ⟨M, 1, none⟩ = some (.string tx) := hc2.cell (p := ⟨M, 1, none⟩) x1 hxM))
            all_goals go_wp2_with fail
            all_goals
              have hst := OwnLast.stored hmL hown2 hc2 hk2
              have hbF := (hboxD.keep hc2 hBM).keep ((Chg.refl (fun k => k = g) w5).setCell (p := ⟨g, init.length * 3 + 2, none⟩) (.inr rfl) (.slice (some ad) nn cc)) (fun h => hgB h.symm)
              have hcF : Chg (RdC W0 B) w (w5.setCell ⟨g, init.length * 3 + 2, none⟩ (.slice (some ad) nn cc)) := (hcD.trans (hc2.mono (O' := RdC W0 B) (fun k _ hk => .inr (hmW k hk)))).setCell (.inr (show RdC W0 B g from .inr hgW)) _
              go_ret
              exact linePost_yes hr.out rfl hcF ⟨_, ⟨Nat.le_trans hbase hcF.size, hbF, .inr ⟨init, _, _, _, rfl, hst⟩⟩⟩
          · have tn : decide ((0 : Int) < (n : Int)) = false := decide_eq_false (by omega)
            have tnn : decide (0 < n) = false := decide_eq_false hn
            have hr : Hid (readLine (init ++ [q]) o n (c :: r) = none) := by
              rw [Hid, HR.out]
              rw [if_neg (fun q => h32 q.1), if_neg (fun q => h45 q.1), if_neg (fun q => hn q.2)]
            have hcN : Chg (RdC W0 B) w w1 := hA2.mono (fun _ _ h => h.elim)
            clear HR hopen hlast hbox hA2
            go_wp2_with fail
            go_ret
            exact linePost_no hr.out rfl hcN
        · have q43 : ((c.toNat : Int) == 43) = false := byte_ne_int h43 rfl
          have hr : Hid (readLine (init ++ [q]) o n (c :: r) = none) := by
            rw [Hid, HR.out]
            rw [if_neg (fun q => h32 q.1), if_neg (fun q => h45 q.1), if_neg (fun q => h43 q.1)]
          have hcN : Chg (RdC W0 B) w w1 := hA2.mono (fun _ _ h => h.elim)
          clear HR hopen hlast hbox hA2
          go_wp2_with fail
          go_ret
          exact linePost_no hr.out rfl hcN
end Go.Proofs.YtmojaahkcpgfkaaGreatDoor
namespace Go.Proofs.YtmojaahkcpgfkaaGreatDoor
open Go.RowKit

theorem lib_pre (s p : List UInt8) : (dropPre p s = none ∧ Lib.hasPrefix s p = false ∧ Lib.trimPrefix s p = s) ∨ ∃ r, dropPre p s = some r ∧ Lib.hasPrefix s p = true ∧ Lib.trimPrefix s p = r := by
  unfold dropPre Lib.trimPrefix Lib.hasPrefix
  by_cases h : p.isPrefixOf s = true
  · exact .inr ⟨_, by rw [if_pos h], h, by rw [if_pos h]⟩
  · exact .inl ⟨by rw [if_neg h], Bool.eq_false_iff.2 h, by rw [if_neg h]⟩
theorem lib_suf (s p : List UInt8) : (dropSuf p s = none ∧ Lib.hasSuffix s p = false ∧ Lib.trimSuffix s p = s) ∨ ∃ r, dropSuf p s = some r ∧ Lib.hasSuffix s p = true ∧ Lib.trimSuffix s p = r := by
  unfold dropSuf Lib.trimSuffix Lib.hasSuffix
  by_cases h : p.isSuffixOf s = true
  · exact .inr ⟨_, by rw [if_pos h], h, by rw [if_pos h]⟩
  · exact .inl ⟨by rw [if_neg h], Bool.eq_false_iff.2 h, by rw [if_neg h]⟩
/-- a head, as the program reads it: five tests -/
theorem head_tests (s : List UInt8) : ∃ (p1 p2 p3 : Bool) (s1 s2 ca cb : List UInt8), Lib.hasPrefix s atAt = p1 ∧ Lib.trimPrefix s atAt = s1 ∧ Lib.hasSuffix s1 endAt = p2 ∧ Lib.trimSuffix s1 endAt = s2 ∧ Lib.cut s2 [32, 43] = (ca, cb, p3) ∧
    s1.length ≤ s.length ∧ s2.length ≤ s.length ∧ ca.length ≤ s.length ∧ cb.length ≤ s.length ∧
    headOf s = if p1 = true ∧ p2 = true ∧ p3 = true then (match spanOf ca with
          | none => none
          | some (a, x) => match spanOf cb with
            | none => none
            | some (b, y) => some (a, x, b, y)) else none := by
  have hc := lib_cut (t := [32, 43]) (s := Lib.trimSuffix (Lib.trimPrefix s atAt) endAt) (by simp)
  have l1 : (Lib.trimPrefix s atAt).length ≤ s.length := by
    unfold Lib.trimPrefix; split
    · rw [List.length_drop]; omega
    · exact Nat.le_refl _
  have l2 : (Lib.trimSuffix (Lib.trimPrefix s atAt) endAt).length ≤ s.length := by
    unfold Lib.trimSuffix; split
    · rw [List.length_take]; omega
    · exact l1
  have l3 := cutA_len [32, 43] (Lib.trimSuffix (Lib.trimPrefix s atAt) endAt)
  have l4 := cutB_len [32, 43] (Lib.trimSuffix (Lib.trimPrefix s atAt) endAt)
  refine ⟨_, _, _, _, _, _, _, rfl, rfl, rfl, rfl, hc, l1, l2, by omega, by omega, ?_⟩
  unfold headOf
  rcases lib_pre s atAt with ⟨h1, h2, h3⟩ | ⟨r, h1, h2, h3⟩
  · rw [h1, h2, if_neg (by simp)]
  · rw [h1, h2, h3]
    simp only
    rcases lib_suf r endAt with ⟨g1, g2, g3⟩ | ⟨q, g1, g2, g3⟩
    · rw [g1, g2, if_neg (by simp)]
    · rw [g1, g2, g3]
      simp only
      unfold cutA cutB
      cases hcu : cutSub [32, 43] q with
      | none => rw [if_neg (by simp)]
      | some p =>
        simp
        rfl
theorem rl_head {hs : List Hunk} {o n : Nat} (h : ¬ (0 < o ∨ 0 < n)) (s : List UInt8) : readLine hs o n s = match headOf s with
    | none => none
    | some (a, x, b, y) => some (hs ++ [⟨a, b, []⟩], x, y) := by unfold readLine; rw [if_neg h]; rfl

set_option maxHeartbeats 2000000 in
set_option maxRecDepth 100000 in
theorem reader_line (W0 B : Nat) (v : Value) (hs : List Hunk) (o n : Nat) (s : ByteArray) (w : World) (h : RdrAt w W0 B v hs o n) (hk : RdOk hs o n) (hs1 : s.size ≤ 1000000000) (hon : o ≤ 1000000 ∧ n ≤ 1000000)
    (hb : hs.length ≤ 1000000) (hml : ∀ h ∈ hs, h.marks.length ≤ 1000000) (m : Int) (hg : Globs w m) :
    Calls Tryz.prog 32 #[.pointer (some ⟨B, 0, none⟩), .string s] w (LinePost W0 B hs o n s.data.toList w) := by
  by_cases hop : 0 < o ∨ 0 < n
  · have HO := Lib.hid (opn_true hop)
    have HC := Lib.hid (reader_mark W0 B v hs o n s w h hop (hk hop) hs1 hon hb hml)
    have hbox := h.box
    clear hml hk hop
    go_enter Tryz.func32, Tryz.ntmps32
    go_wp2_with fail
    refine (rd_open B v o n _ hbox).mono ?_
    rintro e w1 ⟨rfl, rfl⟩
    rw [HO.out]
    go_wp2_with fail
    refine HC.out.mono ?_
    rintro e w2 ⟨hc, hp⟩
    cases hr : readLine hs o n s.data.toList with
    | none =>
      rw [hr] at hp
      subst hp
      have HR := Lib.hid hr
      clear hr HC
      go_wp2_with fail
      go_ret
      exact linePost_no HR.out rfl hc
    | some p =>
      obtain ⟨hs', o', n'⟩ := p
      rw [hr] at hp
      obtain ⟨rfl, hp⟩ := hp
      have HR := Lib.hid hr
      have HP := Lib.hid hp
      clear hr hp HC
      go_wp2_with fail
      go_ret
      exact linePost_yes HR.out rfl hc HP.out
  · have HO := Lib.hid (opn_false hop)
    have HR := Lib.hid (rl_head (hs := hs) hop s.data.toList)
    have hbox := h.box
    have hbase := h.base
    have hown := h.own
    obtain ⟨p1, p2, p3, s1, s2, ca, cb, e1, e2, e3, e4, e5, l1, l2, l3, l4, hh⟩ := head_tests s.data.toList
    have HH := Lib.hid hh
    have E1 := Lib.hid e1
    have E2 := Lib.hid e2
    have E3 := Lib.hid e3
    have E4 := Lib.hid e4
    have E5 := Lib.hid e5
    rw [← Lib.size_eq] at l1 l2 l3 l4
    clear e1 e2 e3 e4 e5 hh hml hk hop h
    go_enter Tryz.func32, Tryz.ntmps32
    go_wp2_with fail
    refine (rd_open B v o n _ hbox).mono ?_
    rintro e w1 ⟨rfl, rfl⟩
    rename World => w
    rw [HO.out]
    go_wp2_with fail
    refine (Tryz.strings_CutPrefix s (toB atAt) _).mono ?_
    rintro e w1 ⟨rfl, rfl⟩
    rename World => w
    rw [toB_data, E1.out, E2.out]
    rw [show (⟨s1.toArray⟩ : ByteArray) = toB s1 from rfl]
    go_wp2_with fail
    refine (Tryz.strings_CutSuffix (toB s1) (toB endAt) _ (by rw [toB_size']; omega)).mono ?_
    rintro e w1 ⟨rfl, rfl⟩
    rename World => w
    rw [toB_data, toB_data, E3.out, E4.out]
    rw [show (⟨s2.toArray⟩ : ByteArray) = toB s2 from rfl]
    go_wp2_with fail
    refine (Tryz.strings_Cut (toB s2) (toB [32, 43]) m _ (by rw [toB_size']; omega) hg.ml).mono ?_
    rintro e w2 ⟨rfl, nd, rfl⟩
    have hc : Chg Never w (w.drewN nd) := (Chg.refl Never w).drewN nd
    rw [toB_data, toB_data, E5.out]
    rw [show (⟨ca.toArray⟩ : ByteArray) = toB ca from rfl, show (⟨cb.toArray⟩ : ByteArray) = toB cb from rfl]
    generalize w.drewN nd = w2 at hc ⊢
    go_wp2_with fail
    refine (read_any (toB ca) (by rw [toB_size']; omega) _ m (hg.never hc)).mono ?_
    rintro e w3 ⟨x, y, rfl, hxy, hc3⟩
    have hc := hc.trans hc3
    rw [toB_data] at hxy ⊢
    go_wp2_with fail
    refine (read_any (toB cb) (by rw [toB_size']; omega) _ m (hg.never hc)).mono ?_
    rintro e w4 ⟨x', y', rfl, hxy', hc4⟩
    have hc := hc.trans hc4
    rw [toB_data] at hxy' ⊢
    clear hc3 hc4 E1 E2 E3 E4 E5
    cases p1 with
    | false =>
      have hr : Hid (readLine hs o n s.data.toList = none) := by
        rw [Hid, HR.out, HH.out]
        simp
      have hcN : Chg (RdC W0 B) w _ := hc.mono (O' := RdC W0 B) (fun _ _ h => h.elim)
      clear HR HH
      go_wp2_with fail
      go_ret
      exact linePost_no hr.out rfl hcN
    | true =>
      cases p2 with
      | false =>
        have hr : Hid (readLine hs o n s.data.toList = none) := by
          rw [Hid, HR.out, HH.out]
          simp
        have hcN : Chg (RdC W0 B) w _ := hc.mono (O' := RdC W0 B) (fun _ _ h => h.elim)
        clear HR HH
        go_wp2_with fail
        go_ret
        exact linePost_no hr.out rfl hcN
      | true =>
        cases p3 with
        | false =>
          have hr : Hid (readLine hs o n s.data.toList = none) := by
            rw [Hid, HR.out, HH.out]
            simp
          have hcN : Chg (RdC W0 B) w _ := hc.mono (O' := RdC W0 B) (fun _ _ h => h.elim)
          clear HR HH
          go_wp2_with fail
          go_ret
          exact linePost_no hr.out rfl hcN
        | true =>
          cases ha : spanOf ca with
          | none =>
            rw [ha] at HH
            rw [Option.isSome_none]
            clear ha hxy hxy'
            generalize (spanOf cb).isSome = f5
            have hr : Hid (readLine hs o n s.data.toList = none) := by
              rw [Hid, HR.out, HH.out]
              simp
            have hcN : Chg (RdC W0 B) w _ := hc.mono (O' := RdC W0 B) (fun _ _ h => h.elim)
            clear HR HH
            go_wp2_with fail
            go_ret
            exact linePost_no hr.out rfl hcN
          | some p =>
            obtain ⟨a, xa⟩ := p
            obtain ⟨rfl, rfl⟩ := hxy a xa ha
            rw [ha] at HH
            rw [Option.isSome_some]
            cases hb2 : spanOf cb with
            | none =>
              rw [hb2] at HH
              rw [Option.isSome_none]
              clear ha hxy hxy' hb2
              have hr : Hid (readLine hs o n s.data.toList = none) := by
                rw [Hid, HR.out, HH.out]
                simp
              have hcN : Chg (RdC W0 B) w _ := hc.mono (O' := RdC W0 B) (fun _ _ h => h.elim)
              clear HR HH
              go_wp2_with fail
              go_ret
              exact linePost_no hr.out rfl hcN
            | some p =>
              obtain ⟨b, xb⟩ := p
              obtain ⟨rfl, rfl⟩ := hxy' b xb hb2
              rw [hb2] at HH
              rw [Option.isSome_some]
              have hr : Hid (readLine hs o n s.data.toList = some (hs ++ [⟨x, x', []⟩], xa, xb)) := by
                rw [Hid, HR.out, HH.out]
                simp
              have hbox4 := hbox.keep hc (fun h => h)
              have hown4 := hown.never hc
              have hBl := hbox4.lt
              obtain ⟨c0, c1, c2⟩ := hbox4.cell
              have hfr := hbox4.free
              have hO : ∀ k, RdO W0 B k → k < w4.heap.size := by
                rintro k (hk | rfl)
                · have := hc.size; omega
                · exact hBl
              obtain ⟨va, vn, vc, rfl⟩ := own_isSlice hown4
              have hBv : ¬ OwnB (.slice va vn vc) B := by
                obtain ⟨_, _, qq, _⟩ := hown4
                exact fun hh => qq B hh (.inr rfl)
              have hvW : ∀ k, OwnB (.slice va vn vc) k → W0 ≤ k := fun k hk => by
                obtain ⟨_, _, qq, _⟩ := hown4
                rcases Nat.lt_or_ge k W0 with h | h
                · exact absurd (.inl h) (qq k hk)
                · exact h
              have hlen : hs.length ≤ 1000000000 := by omega
              clear HR HH ha hb2 hxy hxy' hbox hown
              go_wp2_with (at_builtin; refine wpList_push_last (by rfl) _ _ 22 (by rfl) 39 elemOk_hunk (O := RdO W0 B) (by rfl) (by rfl) (by simp) hown4 hO hlen ?_; intro v' w5 xs hlast hc5; obtain ⟨g', gc', rfl, -, -, -, -, -, -, -, -⟩ := hlast.shape; have hbox5 := hbox4.keep hc5 hBv; have hfr5 := hbox5.free 0; have hfr51 := hbox5.free 1; have hfr52 := hbox5.free 2; obtain ⟨d0, d1, d2⟩ := hbox5.cell)
              have hcF : Chg (RdC W0 B) w ((((w5.setCell ⟨B, 0, none⟩ (.slice (some ⟨g', 0, none⟩) (hs.length + 1) gc')).setCell ⟨B, 1, none⟩ (.int .i64 (xa : Nat))).setCell ⟨B, 2, none⟩ (.int .i64 (xb : Nat)))) :=
                ((((hc.mono (O' := RdC W0 B) (fun _ _ h => h.elim)).trans (hc5.mono (O' := RdC W0 B) (fun k _ hk => .inr (hvW k hk)))).setCell (.inr (show RdC W0 B B from .inl rfl)) _).setCell (.inr (show RdC W0 B B from .inl rfl)) _).setCell (.inr (show RdC W0 B B from .inl rfl)) _
              have hSB : Chg (fun k => k = B) w5 ((((w5.setCell ⟨B, 0, none⟩ (.slice (some ⟨g', 0, none⟩) (hs.length + 1) gc')).setCell ⟨B, 1, none⟩ (.int .i64 (xa : Nat))).setCell ⟨B, 2, none⟩ (.int .i64 (xb : Nat)))) :=
                (((Chg.refl (fun k => k = B) w5).setCell (p := ⟨B, 0, none⟩) (.inr rfl) _).setCell (p := ⟨B, 1, none⟩) (.inr rfl) _).setCell (p := ⟨B, 2, none⟩) (.inr rfl) _
              have hRF : ∃ v', RdrAt ((((w5.setCell ⟨B, 0, none⟩ (.slice (some ⟨g', 0, none⟩) (hs.length + 1) gc')).setCell ⟨B, 1, none⟩ (.int .i64 (xa : Nat))).setCell ⟨B, 2, none⟩ (.int .i64 (xb : Nat)))) W0 B v' (hs ++ [⟨x, x', []⟩]) xa xb :=
                ⟨_, Nat.le_trans hbase hcF.size, ((hbox5.set0 _).set1 _).set2 _, .inr ⟨hs, _, _, _, rfl, hlast.keepO hSB (fun _ _ hk => .inr hk) (fun _ _ hk => hk)⟩⟩
              have HRF := Lib.hid hRF
              have HCF := Lib.hid hcF
              clear hRF hcF hSB hlast hc5 hbox4 hbox5 hown4 c0 c1 c2 hfr hc
              go_wp2_with fail
              go_ret
              exact linePost_yes hr.out rfl HCF.out HRF.out
end Go.Proofs.YtmojaahkcpgfkaaGreatDoor
