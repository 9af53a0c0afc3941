/-
  PARTS: THE WALKS of git.headed and Print.; A CHANGE's HUNKS READ LINE BY LINE, in plain Lean: what holds at each line.; A SLICE OF A SLICE, as a run, at whatever element type (light: no function walked).
-/
import Derived.Test.YtjiaidchcldocaaGreatDoorPg10
import Derived.Test.YtjiaidchcldocaaGreatDoorPg16
import Derived.Test.YtjiaidchcldocaaGreatDoorPg6
import Derived.Test.YtjiaidchcldocaaGreatDoorPg11
import Derived.WalkSpells
set_option linter.unusedVariables false
set_option linter.unusedSimpArgs false
namespace Go.Proofs.YtjiaidchcldocaaGreatDoor
open Go.RowKit

/-- two lines, as the program reads them -/
theorem headed_tests (a b : List UInt8) : ∃ (p1 p2 p3 p4 : Bool) (a1 b1 f t : List UInt8), Lib.hasPrefix a mmL = p1 ∧ Lib.trimPrefix a mmL = a1 ∧ Lib.hasPrefix b ppL = p2 ∧ Lib.trimPrefix b ppL = b1 ∧
    Lib.hasPrefix a1 [97, 47] = p3 ∧ Lib.trimPrefix a1 [97, 47] = f ∧ Lib.hasPrefix b1 [98, 47] = p4 ∧ Lib.trimPrefix b1 [98, 47] = t ∧
    (p3 = true → a1 ≠ noneL) ∧ (p4 = true → b1 ≠ noneL) ∧ f.length ≤ a.length ∧ t.length ≤ b.length ∧
    headedL a b = if p1 = false ∨ p2 = false then none else if p3 = true ∧ p4 = true ∧ f = t then some (1, f) else if a1 = noneL ∧ p4 = true then some (2, t) else if p3 = true ∧ b1 = noneL then some (3, f) else none := by
  have tl : ∀ x p : List UInt8, (Lib.trimPrefix x p).length ≤ x.length := fun x p => by
    unfold Lib.trimPrefix; split
    · rw [List.length_drop]; omega
    · exact Nat.le_refl _
  have hn : ∀ (x : List UInt8), Lib.hasPrefix x [97, 47] = true → x ≠ noneL := fun x h e => by rw [e] at h; exact absurd h (by decide)
  have hm : ∀ (x : List UInt8), Lib.hasPrefix x [98, 47] = true → x ≠ noneL := fun x h e => by rw [e] at h; exact absurd h (by decide)
  refine ⟨_, _, _, _, _, _, _, _, rfl, rfl, rfl, rfl, rfl, rfl, rfl, rfl, hn _, hm _, Nat.le_trans (tl _ _) (tl _ _), Nat.le_trans (tl _ _) (tl _ _), ?_⟩
  unfold headedL
  rcases lib_pre a mmL with ⟨h1, h2, h3⟩ | ⟨x, h1, h2, h3⟩
  · rw [h1, h2, if_pos (.inl rfl)]
  · rcases lib_pre b ppL with ⟨g1, g2, g3⟩ | ⟨y, g1, g2, g3⟩
    · rw [h1, g1, g2, if_pos (.inr rfl)]
    · rw [h1, h2, h3, g1, g2, g3, if_neg (by simp)]
      simp only
      unfold headedR
      rcases lib_pre x [97, 47] with ⟨k1, k2, k3⟩ | ⟨f, k1, k2, k3⟩
      · rcases lib_pre y [98, 47] with ⟨j1, j2, j3⟩ | ⟨t, j1, j2, j3⟩
        · rw [k1, j1, k2, j2]; simp
        · rw [k1, j1, k2, j2, j3]; simp
      · have q := hn x k2
        rcases lib_pre y [98, 47] with ⟨j1, j2, j3⟩ | ⟨t, j1, j2, j3⟩
        · rw [k1, j1, k2, j2, k3]; simp
        · have q2 := hm y j2
          rw [k1, j1, k2, j2, k3, j3]; simp [q, q2]
def HeadPost (a b : List UInt8) (w : World) (e : Ending) (w' : World) : Prop :=
  Chg Never w w' ∧ match headedL a b with
  | none => e = .returned (.tuple #[.agg #[.int .i64 0, .string ⟨#[]⟩, .slice none 0 0], .bool false])
  | some (k, p) => e = .returned (.tuple #[.agg #[.int .i64 k, .string (toB p), .slice none 0 0], .bool true])
theorem headPost_no {a b : List UInt8} {w w' : World} {e : Ending} (h : headedL a b = none) (hc : Chg Never w w') (he : e = .returned (.tuple #[.agg #[.int .i64 0, .string ⟨#[]⟩, .slice none 0 0], .bool false])) : HeadPost a b w e w' := ⟨hc, by rw [h]; exact he⟩
theorem headPost_yes {a b p : List UInt8} {k : Int} {w w' : World} {e : Ending} (h : headedL a b = some (k, p)) (hc : Chg Never w w') (he : e = .returned (.tuple #[.agg #[.int .i64 k, .string (toB p), .slice none 0 0], .bool true])) : HeadPost a b w e w' := ⟨hc, by rw [h]; exact he⟩
theorem str_eq_iff (x y : List UInt8) : ((toB x).toList == (toB y).toList) = decide (x = y) := by
  rw [Lib.toList_data, Lib.toList_data, toB_data, toB_data]
  by_cases h : x = y <;> simp [h]
theorem str_eq_lit (x y : List UInt8) : ((toB x).toList == y) = decide (x = y) := by
  rw [Lib.toList_data, toB_data]
  by_cases h : x = y <;> simp [h]

set_option maxHeartbeats 2000000 in
set_option maxRecDepth 100000 in
theorem headed_any (a b : ByteArray) (w : World) (_ha : a.size ≤ 1000000000) (_hb : b.size ≤ 1000000000) :
    Calls Tryz.prog 119 #[.string a, .string b] w (HeadPost a.data.toList b.data.toList w) := by
  obtain ⟨p1, p2, p3, p4, a1, b1', f, t, e1, e2, e3, e4, e5, e6, e7, e8, q1, q2, -, -, hh⟩ := headed_tests a.data.toList b.data.toList
  have HH := Lib.hid hh
  have E1 := Lib.hid e1
  have E2 := Lib.hid e2
  have E3 := Lib.hid e3
  have E4 := Lib.hid e4
  have E5 := Lib.hid e5
  have E6 := Lib.hid e6
  have E7 := Lib.hid e7
  have E8 := Lib.hid e8
  have hA0 : Chg Never w (w.alloc (.cells #[.int .i64 0, .string ⟨#[]⟩, .slice none 0 0] 85)) := (Chg.refl Never w).alloc _
  have hB0 := Blk3.new w 85 (.int .i64 0) (.string ⟨#[]⟩) (.slice none 0 0)
  clear e1 e2 e3 e4 e5 e6 e7 e8 hh
  go_enter Tryz.func119, Tryz.ntmps119
  go_wp2_with fail
  obtain ⟨w0, hw0⟩ : ∃ w0, w.alloc (.cells #[.int .i64 0, .string ⟨#[]⟩, .slice none 0 0] 85) = w0 := ⟨_, rfl⟩
  obtain ⟨wb, hwbe⟩ : ∃ wb, w.heap.size = wb := ⟨_, rfl⟩
  have hwb : w.heap.size ≤ wb := Nat.le_of_eq hwbe
  rw [hw0] at hA0 hB0 ⊢
  rw [hwbe] at hB0 ⊢
  clear hw0 hwbe
  refine (Tryz.strings_CutPrefix a (toB mmL) _).mono ?_
  rintro e w1 ⟨rfl, rfl⟩
  rename World => w0
  rw [toB_data, E1.out, E2.out, show (⟨a1.toArray⟩ : ByteArray) = toB a1 from rfl]
  go_wp2_with fail
  refine (Tryz.strings_CutPrefix b (toB ppL) _).mono ?_
  rintro e w1 ⟨rfl, rfl⟩
  rename World => w0
  rw [toB_data, E3.out, E4.out, show (⟨b1'.toArray⟩ : ByteArray) = toB b1' from rfl]
  go_wp2_with fail
  refine (Tryz.strings_CutPrefix (toB a1) (toB [97, 47]) _).mono ?_
  rintro e w1 ⟨rfl, rfl⟩
  rename World => w0
  rw [toB_data, toB_data, E5.out, E6.out, show (⟨f.toArray⟩ : ByteArray) = toB f from rfl]
  go_wp2_with fail
  refine (Tryz.strings_CutPrefix (toB b1') (toB [98, 47]) _).mono ?_
  rintro e w1 ⟨rfl, rfl⟩
  rename World => w0
  rw [toB_data, toB_data, E7.out, E8.out, show (⟨t.toArray⟩ : ByteArray) = toB t from rfl]
  have hA := hA0
  have hB := hB0
  obtain ⟨b0, b1, b2⟩ := hB.cell
  have f0 := hB.free 0
  have f1 := hB.free 1
  have f2 := hB.free 2
  have S0 := cell_put_eq b0
  have S1 := cell_put_eq b1
  have S2 := cell_put_eq b2
  clear hA0 hB0 E1 E2 E3 E4 E5 E6 E7 E8
  have eft := str_eq_iff f t
  have ean : ((toB a1).toList == [47, 100, 101, 118, 47, 110, 117, 108, 108]) = decide (a1 = noneL) := str_eq_lit a1 noneL
  have ebn : ((toB b1').toList == [47, 100, 101, 118, 47, 110, 117, 108, 108]) = decide (b1' = noneL) := str_eq_lit b1' noneL
  cases p1 with
  | false =>
    clear eft ean ebn q1 q2
    have hr : Hid (headedL a.data.toList b.data.toList = none) := by
      rw [Hid, HH.out]
      rw [if_pos (.inl rfl)]
    clear HH
    go_wp2_with fail
    refine bodyPost_ret (v := .tuple #[.agg #[.int .i64 0, .string ⟨#[]⟩, .slice none 0 0], .bool false]) (by simp [results, Tryz.results119, go_sem, b0, b1, b2]) rfl ?_
    exact headPost_no hr.out hA rfl
  | true =>
    cases p2 with
    | false =>
      clear eft ean ebn q1 q2
      have hr : Hid (headedL a.data.toList b.data.toList = none) := by
        rw [Hid, HH.out]
        rw [if_pos (.inr rfl)]
      clear HH
      go_wp2_with fail
      refine bodyPost_ret (v := .tuple #[.agg #[.int .i64 0, .string ⟨#[]⟩, .slice none 0 0], .bool false]) (by simp [results, Tryz.results119, go_sem, b0, b1, b2]) rfl ?_
      exact headPost_no hr.out hA rfl
    | true =>
      have HH : Hid (headedL a.data.toList b.data.toList = if p3 = true ∧ p4 = true ∧ f = t then some (1, f) else if a1 = noneL ∧ p4 = true then some (2, t) else if p3 = true ∧ b1' = noneL then some (3, f) else none) := by
        have := HH.out
        rw [if_neg (by simp)] at this
        exact this
      cases p3 with
      | true =>
        rw [decide_eq_false (q1 rfl)] at ean
        have nA := Lib.hid (q1 rfl)
        cases p4 with
        | true =>
          rw [decide_eq_false (q2 rfl)] at ebn
          have nB := Lib.hid (q2 rfl)
          by_cases h : f = t
          · rw [decide_eq_true h] at eft
            have HFT := Lib.hid h
            clear q1 q2 h
            have hr : Hid (headedL a.data.toList b.data.toList = some (1, f)) := by
              rw [Hid, HH.out]
              rw [if_pos ⟨rfl, rfl, HFT.out⟩]
            have hBF := ((hB.set0 (.int .i64 1)).set1 (.string (toB f))).set2 (.slice none 0 0)
            have hCF := ((hA.setCell (p := ⟨wb, 0, none⟩) (.inl hwb) (.int .i64 1)).setCell (p := ⟨wb, 1, none⟩) (.inl hwb) (.string (toB f))).setCell (p := ⟨wb, 2, none⟩) (.inl hwb) (.slice none 0 0)
            clear HH S0 S1 S2
            go_wp2_with fail
            obtain ⟨d0, d1, d2⟩ := hBF.cell
            refine bodyPost_ret (v := .tuple #[.agg #[.int .i64 1, .string (toB f), .slice none 0 0], .bool true]) (by simp [results, Tryz.results119, go_sem, d0, d1, d2]) rfl ?_
            exact headPost_yes hr.out hCF rfl
          · rw [decide_eq_false h] at eft
            have HFT := Lib.hid h
            clear q1 q2 h
            have hr : Hid (headedL a.data.toList b.data.toList = none) := by
              rw [Hid, HH.out]
              rw [if_neg (fun q => HFT.out q.2.2), if_neg (fun q => nA.out q.1), if_neg (fun q => nB.out q.2)]
            clear HH
            go_wp2_with fail
            refine bodyPost_ret (v := .tuple #[.agg #[.int .i64 0, .string ⟨#[]⟩, .slice none 0 0], .bool false]) (by simp [results, Tryz.results119, go_sem, b0, b1, b2]) rfl ?_
            exact headPost_no hr.out hA rfl
        | false =>
          by_cases h : b1' = noneL
          · rw [decide_eq_true h] at ebn
            have HFT := Lib.hid h
            clear q1 q2 h
            have hr : Hid (headedL a.data.toList b.data.toList = some (3, f)) := by
              rw [Hid, HH.out]
              rw [if_neg (by simp), if_neg (by simp), if_pos ⟨rfl, HFT.out⟩]
            have hBF := ((hB.set0 (.int .i64 3)).set1 (.string (toB f))).set2 (.slice none 0 0)
            have hCF := ((hA.setCell (p := ⟨wb, 0, none⟩) (.inl hwb) (.int .i64 3)).setCell (p := ⟨wb, 1, none⟩) (.inl hwb) (.string (toB f))).setCell (p := ⟨wb, 2, none⟩) (.inl hwb) (.slice none 0 0)
            clear HH S0 S1 S2
            go_wp2_with fail
            obtain ⟨d0, d1, d2⟩ := hBF.cell
            refine bodyPost_ret (v := .tuple #[.agg #[.int .i64 3, .string (toB f), .slice none 0 0], .bool true]) (by simp [results, Tryz.results119, go_sem, d0, d1, d2]) rfl ?_
            exact headPost_yes hr.out hCF rfl
          · rw [decide_eq_false h] at ebn
            have HFT := Lib.hid h
            clear q1 q2 h
            have hr : Hid (headedL a.data.toList b.data.toList = none) := by
              rw [Hid, HH.out]
              rw [if_neg (by simp), if_neg (by simp), if_neg (fun q => HFT.out q.2)]
            clear HH
            go_wp2_with fail
            refine bodyPost_ret (v := .tuple #[.agg #[.int .i64 0, .string ⟨#[]⟩, .slice none 0 0], .bool false]) (by simp [results, Tryz.results119, go_sem, b0, b1, b2]) rfl ?_
            exact headPost_no hr.out hA rfl
      | false =>
        by_cases h : a1 = noneL
        · rw [decide_eq_true h] at ean
          have HFT := Lib.hid h
          clear q1 q2 h
          cases p4 with
          | true =>
            have hr : Hid (headedL a.data.toList b.data.toList = some (2, t)) := by
              rw [Hid, HH.out]
              rw [if_neg (by simp), if_pos ⟨HFT.out, rfl⟩]
            have hBF := ((hB.set0 (.int .i64 2)).set1 (.string (toB t))).set2 (.slice none 0 0)
            have hCF := ((hA.setCell (p := ⟨wb, 0, none⟩) (.inl hwb) (.int .i64 2)).setCell (p := ⟨wb, 1, none⟩) (.inl hwb) (.string (toB t))).setCell (p := ⟨wb, 2, none⟩) (.inl hwb) (.slice none 0 0)
            clear HH S0 S1 S2
            go_wp2_with fail
            obtain ⟨d0, d1, d2⟩ := hBF.cell
            refine bodyPost_ret (v := .tuple #[.agg #[.int .i64 2, .string (toB t), .slice none 0 0], .bool true]) (by simp [results, Tryz.results119, go_sem, d0, d1, d2]) rfl ?_
            exact headPost_yes hr.out hCF rfl
          | false =>
            have hr : Hid (headedL a.data.toList b.data.toList = none) := by
              rw [Hid, HH.out]
              rw [if_neg (by simp), if_neg (by simp), if_neg (by simp)]
            clear HH
            go_wp2_with fail
            refine bodyPost_ret (v := .tuple #[.agg #[.int .i64 0, .string ⟨#[]⟩, .slice none 0 0], .bool false]) (by simp [results, Tryz.results119, go_sem, b0, b1, b2]) rfl ?_
            exact headPost_no hr.out hA rfl
        · rw [decide_eq_false h] at ean
          have HFT := Lib.hid h
          clear q1 q2 h
          cases p4 with
          | true =>
            have hr : Hid (headedL a.data.toList b.data.toList = none) := by
              rw [Hid, HH.out]
              rw [if_neg (by simp), if_neg (fun q => HFT.out q.1), if_neg (by simp)]
            clear HH
            go_wp2_with fail
            refine bodyPost_ret (v := .tuple #[.agg #[.int .i64 0, .string ⟨#[]⟩, .slice none 0 0], .bool false]) (by simp [results, Tryz.results119, go_sem, b0, b1, b2]) rfl ?_
            exact headPost_no hr.out hA rfl
          | false =>
            have hr : Hid (headedL a.data.toList b.data.toList = none) := by
              rw [Hid, HH.out]
              rw [if_neg (by simp), if_neg (by simp), if_neg (by simp)]
            clear HH
            go_wp2_with fail
            refine bodyPost_ret (v := .tuple #[.agg #[.int .i64 0, .string ⟨#[]⟩, .slice none 0 0], .bool false]) (by simp [results, Tryz.results119, go_sem, b0, b1, b2]) rfl ?_
            exact headPost_no hr.out hA rfl
end Go.Proofs.YtjiaidchcldocaaGreatDoor
namespace Go.Proofs.YtjiaidchcldocaaGreatDoor

theorem spanOf_lt {s : List UInt8} {a : Int} {x : Nat} (h : spanOf s = some (a, x)) : x < 1000 := by
  unfold spanOf at h
  cases hc : cutSub [44] s with
  | none => rw [hc] at h; cases h
  | some p =>
    obtain ⟨u, v⟩ := p
    rw [hc] at h
    simp only at h
    cases hu : numOf u with
    | none => rw [hu] at h; cases h
    | some y =>
      cases hv : numOf v with
      | none => rw [hu, hv] at h; cases h
      | some z =>
        have := numOf_lt hv
        rw [hu, hv] at h
        simp only at h
        split at h
        · split at h
          · cases h
          · injection h with h; injection h with _ h; omega
        · injection h with h; injection h with _ h; omega
theorem headOf_lt {s : List UInt8} {a b : Int} {x y : Nat} (h : headOf s = some (a, x, b, y)) : x < 1000 ∧ y < 1000 := by
  unfold headOf at h
  cases h1 : dropPre atAt s with
  | none => rw [h1] at h; cases h
  | some r =>
    rw [h1] at h
    simp only at h
    cases h2 : dropSuf endAt r with
    | none => rw [h2] at h; cases h
    | some m =>
      rw [h2] at h
      simp only at h
      cases h3 : cutSub [32, 43] m with
      | none => rw [h3] at h; cases h
      | some p =>
        obtain ⟨u, v⟩ := p
        rw [h3] at h
        simp only at h
        cases h4 : spanOf u with
        | none => rw [h4] at h; cases h
        | some p =>
          obtain ⟨a', x'⟩ := p
          rw [h4] at h
          simp only at h
          cases h5 : spanOf v with
          | none => rw [h5] at h; cases h
          | some p =>
            obtain ⟨b', y'⟩ := p
            rw [h5] at h
            simp only [Option.some.injEq, Prod.mk.injEq] at h
            obtain ⟨-, rfl, -, rfl⟩ := h
            exact ⟨spanOf_lt h4, spanOf_lt h5⟩
theorem addMark_len : ∀ (hs : List Hunk) (m : Mark), (addMark hs m).length = hs.length
  | [], _ => rfl
  | [_], _ => rfl
  | h :: k :: r, m => by
    show (h :: addMark (k :: r) m).length = _
    rw [List.length_cons, addMark_len (k :: r) m]; rfl
theorem addMark_marks : ∀ (hs : List Hunk) (m : Mark) (j : Nat), (∀ h ∈ hs, h.marks.length ≤ j) → ∀ h ∈ addMark hs m, h.marks.length ≤ j + 1
  | [], _, _, _, _, hh => by cases hh
  | [h], m, j, hb, x, hx => by
    have := hb h (List.mem_cons_self ..)
    simp only [addMark, List.mem_cons, List.not_mem_nil, or_false] at hx
    subst hx
    simp only [List.length_append, List.length_cons, List.length_nil]
    omega
  | h :: k :: r, m, j, hb, x, hx => by
    rcases List.mem_cons.1 (show x ∈ h :: addMark (k :: r) m from hx) with rfl | hx
    · have := hb x (List.mem_cons_self ..); omega
    · exact addMark_marks (k :: r) m j (fun y hy => hb y (List.mem_cons_of_mem _ hy)) x hx
/-- what a reader holds behind j lines -/
structure RdB (hs : List Hunk) (o n j : Nat) : Prop where
  ok : RdOk hs o n
  len : hs.length ≤ j
  marks : ∀ h ∈ hs, h.marks.length ≤ j
  on : o < 1000 ∧ n < 1000
theorem rdB_start : RdB [] 0 0 0 := ⟨rdOk_start, Nat.le_refl _, fun _ h => (by cases h), by decide, by decide⟩
theorem rdB_step {hs hs' : List Hunk} {o n o' n' j : Nat} {s : List UInt8} (h : RdB hs o n j) (hr : readLine hs o n s = some (hs', o', n')) : RdB hs' o' n' (j + 1) := by
  have hok := readLine_ok h.ok hr
  refine ⟨fun _ => hok, ?_, ?_, ?_⟩
  all_goals
    have hl := h.len
    have hm := h.marks
    have hon := h.on
    unfold readLine at hr
    by_cases q : 0 < o ∨ 0 < n
    · rw [if_pos q] at hr
      cases s with
      | nil => cases hr
      | cons c r =>
        simp only at hr
        split at hr
        · injection hr with hr; injection hr with h1 h2; injection h2 with h2 h3; subst h1; subst h2; subst h3
          first | (rw [addMark_len]; omega) | exact addMark_marks _ _ _ hm | (constructor <;> omega)
        · split at hr
          · injection hr with hr; injection hr with h1 h2; injection h2 with h2 h3; subst h1; subst h2; subst h3
            first | (rw [addMark_len]; omega) | exact addMark_marks _ _ _ hm | (constructor <;> omega)
          · split at hr
            · injection hr with hr; injection hr with h1 h2; injection h2 with h2 h3; subst h1; subst h2; subst h3
              first | (rw [addMark_len]; omega) | exact addMark_marks _ _ _ hm | (constructor <;> omega)
            · cases hr
    · rw [if_neg q] at hr
      cases hd : headOf s with
      | none => rw [hd] at hr; cases hr
      | some p =>
        obtain ⟨a, x, b, y⟩ := p
        have hxy := headOf_lt hd
        rw [hd] at hr
        simp only [Option.some.injEq, Prod.mk.injEq] at hr
        obtain ⟨rfl, rfl, rfl⟩ := hr
        first
          | (rw [List.length_append]; simp only [List.length_cons, List.length_nil]; omega)
          | exact hxy
          | (intro k hk
             rcases List.mem_append.1 hk with hk | hk
             · have := hm k hk; omega
             · simp only [List.mem_cons, List.not_mem_nil, or_false] at hk
               subst hk
               exact Nat.zero_le _)
/-- the hunks of a change: what is read from here on is what was read from the start -/
structure TakeInv (R l : List (List UInt8)) (hs : List Hunk) (o n : Nat) : Prop where
  take : takeU l hs o n = takeU R [] 0 0
theorem tinv_start (R : List (List UInt8)) : TakeInv R R [] 0 0 := ⟨rfl⟩
theorem tinv_step {R l : List (List UInt8)} {hs hs' : List Hunk} {o n o' n' : Nat} {s : List UInt8} (h : TakeInv R (s :: l) hs o n) (hc : (0 < o ∨ 0 < n) ∨ hunkHead s = true) (hr : readLine hs o n s = some (hs', o', n')) : TakeInv R l hs' o' n' :=
  ⟨by rw [← h.take, take_cons hc hr]⟩
theorem tinv_bad {R l : List (List UInt8)} {hs : List Hunk} {o n : Nat} {s : List UInt8} (h : TakeInv R (s :: l) hs o n) (hc : (0 < o ∨ 0 < n) ∨ hunkHead s = true) (hr : readLine hs o n s = none) : takeU R [] 0 0 = none := by
  rw [← h.take, takeU, if_pos hc, hr]
theorem tinv_open {R : List (List UInt8)} {hs : List Hunk} {o n : Nat} (h : TakeInv R [] hs o n) (hc : 0 < o ∨ 0 < n) : takeU R [] 0 0 = none := by
  rw [← h.take, takeU, if_pos hc]
theorem tinv_end {R l : List (List UInt8)} {hs : List Hunk} {o n : Nat} (h : TakeInv R l hs o n) (hc : ¬ (0 < o ∨ 0 < n)) (hl : ∀ s r, l = s :: r → hunkHead s = false) : takeU R [] 0 0 = some (hs, l) := by
  rw [← h.take]
  cases l with
  | nil => rw [takeU, if_neg hc]
  | cons s r => rw [takeU, if_neg (fun q => q.elim hc (fun q => by rw [hl s r rfl] at q; cases q))]
end Go.Proofs.YtjiaidchcldocaaGreatDoor
namespace Go.Proofs.YtjiaidchcldocaaGreatDoor
open Go.RowKit

/-- 's[i:j]' as a run, at whatever element type -/
theorem slice_g {P : Program} {t : TypeId} (ht : P.underlying t = some (.slice (P.elem t))) {α : Type} [Dat α] (hsz : ∀ w, (sizeOf (P.elem t)).run P w = .ok (Dat.n α) w) {w0 : World} {O : Nat → Prop} {a : Option Addr} {cap : Nat} {l : List α} (h : Rdv w0 O (.slice a l.length cap) l) (i j : Nat) (hij : i ≤ j) (hj : j ≤ l.length) :
    ∃ b, (∀ (x y : Int) (w : World), x = i → y = j → (Instr.slice t (.slice a l.length cap) (some (.int .i64 x)) (some (.int .i64 y)) none).run P w = .ok (.slice b (j - i) (cap - i)) w) ∧
      (∀ (x : Int) (w : World), x = i → j = l.length → (Instr.slice t (.slice a l.length cap) (some (.int .i64 x)) none none).run P w = .ok (.slice b (j - i) (cap - i)) w) ∧
      (∀ (y : Int) (w : World), i = 0 → y = j → (Instr.slice t (.slice a l.length cap) none (some (.int .i64 y)) none).run P w = .ok (.slice b (j - i) (cap - i)) w) ∧
      Rdv w0 O (.slice b (j - i) (cap - i)) ((l.drop i).take (j - i)) := by
  have hr := rdv_sliced h i j hij hj
  obtain ⟨b, hb⟩ := sliced_isSlice a i j cap (Dat.n α)
  obtain ⟨a', cap', e, h1, h2, h3⟩ := rdv_slice h
  simp only [Value.slice.injEq, true_and] at e
  obtain ⟨rfl, rfl⟩ := e
  refine ⟨b, ?_, ?_, ?_, hb ▸ hr⟩
  · rintro x y w rfl rfl
    rw [run_slice_lh w t a l.length cap ht .i64 .i64 _ _ (by omega) (by omega) (by omega), hsz]
    simp only [Result.andThen_ok, Int.toNat_natCast]
    rw [hb]
  · rintro x w rfl rfl
    rw [run_slice_l w t a l.length cap ht .i64 _ (by omega) (by omega), hsz]
    simp only [Result.andThen_ok, Int.toNat_natCast]
    rw [hb]
  · rintro y w rfl rfl
    rw [run_slice_h w t a l.length cap ht .i64 _ (by omega) (by omega), hsz]
    simp only [Result.andThen_ok, Int.toNat_natCast]
    rw [hb]
end Go.Proofs.YtjiaidchcldocaaGreatDoor
