/-
  PARTS: THE WALKS of series.titled, subject, id, and of the document's word at 20 bytes.; BOXES, in plain Lean (chapter 12): one mail behind the other.; PARTS BETWEEN CUTS, in plain Lean: the library's splits are those of the plain laws.; THE WALKS of unified.number and read.; SERIES, in plain Lean (chapter 13): a mail's part as the program reads it.; A BOX OF FOUR CELLS. No program in sight.; THE WALKS of mail.Check, Print, field; of the document's Find, Starts, Ends, MailFault, MailText.; A SLICE OF HUNKS THAT THE CALL ITSELF BUILDS, OF WHICH THE LAST ONE STILL GROWS ('OwnLast'): pushed onto, its last one's marks pushed onto, closed. No program in sight.; A READER OF HUNKS IN MEMORY ('RdrAt'): a box of three cells: the hunks that have been read (the last one still grows), how many marks it needs.; THE WALKS: the laws' Hunk, Hunks.; THE WALK of hunk.near.
-/
import Derived.Test.YtjiaidchcldocaaGreatDoorPa1
import Derived.Test.YtjiaidchcldocaaGreatDoorPa4
import Derived.Deep.RegionHeld3
import Derived.Lib.SplitLaws
import Derived.Lib.IndexMore
import Derived.Test.YtjiaidchcldocaaGreatDoorPa2
import Derived.WalkLawsBesides
import Derived.Test.YtjiaidchcldocaaGreatDoorPa3
set_option linter.unusedVariables false
set_option linter.unusedSimpArgs false
namespace Go.Proofs.YtjiaidchcldocaaGreatDoor
open Go.RowKit

theorem titledB_eq (s : List UInt8) : titledB s = (!(s == []) && decide (s.length ≤ 20) && s.all okChar) := rfl

set_option maxHeartbeats 1000000 in
set_option maxRecDepth 100000 in
theorem titled_any (s : ByteArray) (w : World) (hs : s.size ≤ maxLen) :
    Calls Tryz.prog 43 #[.string s] w fun e w' => e = .returned (.bool (titledB s.data.toList)) ∧ w = w' := by
  unfold maxLen at hs
  by_cases h0 : s.size = 0
  · have e0 : s.data.toList = [] := List.eq_nil_of_length_eq_zero (by rw [← Lib.size_eq]; exact h0)
    have HW : Hid (titledB s.data.toList = false) := by rw [Hid, e0]; rfl
    have te : s.toList.isEmpty = true := by rw [Lib.toList_data, e0]; rfl
    clear e0
    have tl : decide ((s.size : Int) < 1) = true := decide_eq_true (by omega)
    go_enter Tryz.func43, Tryz.ntmps43
    go_wp2_with fail
    go_ret
    exact ⟨by rw [HW.out]; rfl, rfl⟩
  · by_cases h20 : 20 < s.size
    · have HW : Hid (titledB s.data.toList = false) := by
        rw [Hid, titledB_eq, decide_eq_false (by rw [← Lib.size_eq]; omega : ¬ s.data.toList.length ≤ 20)]; simp
      have te : s.toList.isEmpty = false := by
        rw [Lib.toList_data]
        cases e : s.data.toList.isEmpty with
        | false => rfl
        | true => exact absurd (by rw [Lib.size_eq, List.isEmpty_iff.1 e]; rfl) h0
      have tl : decide ((s.size : Int) < 1) = false := decide_eq_false (by omega)
      have t4 : decide ((20 : Int) < (s.size : Int)) = true := decide_eq_true (by omega)
      go_enter Tryz.func43, Tryz.ntmps43
      go_wp2_with fail
      go_ret
      exact ⟨by rw [HW.out]; rfl, rfl⟩
    · have HW : Hid (titledB s.data.toList = s.data.toList.all okChar) := by
        rw [Hid, titledB_eq, decide_eq_true (by rw [← Lib.size_eq]; omega : s.data.toList.length ≤ 20)]
        have : (s.data.toList == []) = false := by
          simp only [beq_eq_false_iff_ne, ne_eq]
          intro e
          exact h0 (by rw [Lib.size_eq, e]; rfl)
        rw [this]; simp
      have te : s.toList.isEmpty = false := by
        rw [Lib.toList_data]
        cases e : s.data.toList.isEmpty with
        | false => rfl
        | true => exact absurd (by rw [Lib.size_eq, List.isEmpty_iff.1 e]; rfl) h0
      have tl : decide ((s.size : Int) < 1) = false := decide_eq_false (by omega)
      have t4 : decide ((20 : Int) < (s.size : Int)) = false := decide_eq_false (by omega)
      go_enter Tryz.func43, Tryz.ntmps43
      go_wp2_with fail
      go_loop [13] (fun i => ∃ k : Nat, k ≤ s.size ∧ i = .int .i64 k ∧ Hid ((s.data.toList.drop k).all okChar = s.data.toList.all okChar)) (fun i => s.size - (intOf i).toNat)
      case atStart => exact ⟨0, Nat.zero_le _, rfl, rfl⟩
      case round =>
        obtain ⟨k, hk, rfl, hf⟩ := hrel
        by_cases hlt : k < s.size
        · have hd : Hid (s.data.toList.drop k = s[k] :: s.data.toList.drop (k + 1)) := by
            rw [Hid]
            exact drop_eq (by rw [Array.getElem?_toList, Array.getElem?_eq_getElem hlt]; rfl)
          obtain ⟨c, hc⟩ : ∃ c, s[k] = c := ⟨_, rfl⟩
          rw [hc] at hd
          by_cases b1 : c.toNat < 32
          · have HF : Hid (s.data.toList.all okChar = false) := by
              rw [Hid, ← hf.out, hd.out, List.all_cons, okChar, decide_eq_false (by omega : ¬ 32 ≤ c.toNat)]; rfl
            have u1 : decide ((c.toNat : Int) < 32) = true := decide_eq_true (by omega)
            clear hf hd b1
            go_wp2_with fail
            go_ret
            exact ⟨by rw [HW.out, HF.out]; rfl, rfl⟩
          · by_cases b2 : 126 < c.toNat
            · have HF : Hid (s.data.toList.all okChar = false) := by
                rw [Hid, ← hf.out, hd.out, List.all_cons, okChar, decide_eq_false (by omega : ¬ c.toNat ≤ 126), Bool.and_false]; rfl
              have u1 : decide ((c.toNat : Int) < 32) = false := decide_eq_false (by omega)
              have u2 : decide ((126 : Int) < (c.toNat : Int)) = true := decide_eq_true (by omega)
              clear hf hd b1 b2
              go_wp2_with fail
              go_ret
              exact ⟨by rw [HW.out, HF.out]; rfl, rfl⟩
            · have HF : Hid ((s.data.toList.drop (k + 1)).all okChar = s.data.toList.all okChar) := by
                rw [Hid, ← hf.out, hd.out, List.all_cons, okChar, decide_eq_true (by omega : 32 ≤ c.toNat), decide_eq_true (by omega : c.toNat ≤ 126)]; rfl
              have u1 : decide ((c.toNat : Int) < 32) = false := decide_eq_false (by omega)
              have u2 : decide ((126 : Int) < (c.toNat : Int)) = false := decide_eq_false (by omega)
              clear hf hd b1 b2
              go_wp2_with fail
              go_round
              case rel => exact ⟨k + 1, by omega, by go_num, HF.out⟩
              case measure => simp [intOf]; omega
        · have HF : Hid (s.data.toList.all okChar = true) := by
            rw [Hid, ← hf.out, List.drop_of_length_le (by rw [← Lib.size_eq]; omega)]; rfl
          go_wp2_with fail
          go_ret
          exact ⟨by rw [HW.out, HF.out]; rfl, rfl⟩
abbrev partV (t : ByteArray) (a b : Int) (v : Value) : Value := .agg #[.string t, .int .i64 a, .int .i64 b, v]
theorem box1_part (w : World) (T : TypeId) (t : ByteArray) (a b : Int) (v : Value) (W : World) (hW : W = w.alloc (.cells #[.string t, .int .i64 a, .int .i64 b, v] T)) :
    Chg Never w W ∧ W.cell? ⟨w.heap.size, 0, none⟩ = some (.string t) ∧ W.cell? ⟨w.heap.size, 1, none⟩ = some (.int .i64 a) ∧ W.cell? ⟨w.heap.size, 2, none⟩ = some (.int .i64 b) ∧ W.cell? ⟨w.heap.size, 3, none⟩ = some v := by
  subst hW
  have n := heap_alloc_new w (.cells #[.string t, .int .i64 a, .int .i64 b, v] T)
  refine ⟨(Chg.refl Never w).alloc _, ?_, ?_, ?_, ?_⟩ <;> (simp only [World.cell?]; rw [n]; rfl)
theorem subj_str (a b : Nat) (t : ByteArray) : (⟨#[91, 80, 65, 84, 67, 72, 32]⟩ : ByteArray) ++ toB (Lib.decDigits a) ++ ⟨#[47]⟩ ++ toB (Lib.decDigits b) ++ ⟨#[93, 32]⟩ ++ t = toB (subjL a b t.data.toList) := by
  apply ByteArray.ext
  apply Array.toList_inj.1
  simp only [bytes_append, toB_data]
  unfold subjL patW
  simp
theorem id_str (a b : Nat) : toB (Lib.decDigits a) ++ ⟨#[46]⟩ ++ toB (Lib.decDigits b) = toB (idL a b) := by
  apply ByteArray.ext
  apply Array.toList_inj.1
  simp only [bytes_append, toB_data]
  unfold idL
  rfl
theorem dig_small : ∀ n, n ≤ 8 → (Lib.decDigits n).length = 1 := by decide +kernel
set_option maxHeartbeats 1000000 in
set_option maxRecDepth 100000 in
theorem subject_any (t : ByteArray) (a b : Nat) (v : Value) (w : World) (ha : a ≤ 8) (hb : b ≤ 8) (ht : t.size ≤ 1000000000) (hv : v.oneCell' = true) :
    Calls Tryz.prog 44 #[partV t a b v] w fun e w' => e = .returned (.string (toB (subjL a b t.data.toList))) ∧ Chg Never w w' := by
  obtain ⟨hA, c0, c1, c2, -⟩ := box1_part w 97 t a b v _ rfl
  have F1 : ∀ wx, Calls Tryz.prog 96 #[.int .i64 a] wx fun e w' => e = .returned (.string (toB (Lib.decDigits a))) ∧ w' = wx := fun wx => by
    have := itoa_any (a : Int) a rfl (by omega) wx
    rw [itoa_nat] at this
    exact this
  have F2 : ∀ wx, Calls Tryz.prog 96 #[.int .i64 b] wx fun e w' => e = .returned (.string (toB (Lib.decDigits b))) ∧ w' = wx := fun wx => by
    have := itoa_any (b : Int) b rfl (by omega) wx
    rw [itoa_nat] at this
    exact this
  have z1 : (toB (Lib.decDigits a)).size = 1 := by rw [toB_size', dig_small a ha]
  have z2 : (toB (Lib.decDigits b)).size = 1 := by rw [toB_size', dig_small b hb]
  have HS := Lib.hid (subj_str a b t)
  obtain ⟨D1, hD1⟩ : ∃ D, toB (Lib.decDigits a) = D := ⟨_, rfl⟩
  obtain ⟨D2, hD2⟩ : ∃ D, toB (Lib.decDigits b) = D := ⟨_, rfl⟩
  rw [hD1] at F1 z1 HS
  rw [hD2] at F2 z2 HS
  clear hD1 hD2
  have n1 : ¬ (9223372036854775807 < 7 + D1.size) := by omega
  have n2 : ¬ (9223372036854775807 < 7 + D1.size + 1) := by omega
  have n3 : ¬ (9223372036854775807 < 7 + D1.size + 1 + D2.size) := by omega
  have n4 : ¬ (9223372036854775807 < 7 + D1.size + 1 + D2.size + 2) := by omega
  have n5 : ¬ (9223372036854775807 < 7 + D1.size + 1 + D2.size + 2 + t.size) := by omega
  have n6 : ¬ (9223372036854775807 < 12 + t.size) := by omega
  go_enter Tryz.func44, Tryz.ntmps44
  go_wp2_with fail
  generalize w.alloc (.cells #[.string t, .int .i64 a, .int .i64 b, v] 97) = wA at hA c0 c1 c2 ⊢
  generalize w.heap.size = B at c0 c1 c2 ⊢
  refine wp_region_held_drew (S := fun w' => Chg Never wA w' ∧ w'.cell? ⟨B, 0, none⟩ = some (.string t) ∧ w'.cell? ⟨B, 1, none⟩ = some (.int .i64 a) ∧ w'.cell? ⟨B, 2, none⟩ = some (.int .i64 b)) (by kernel_rfl) ⟨(Chg.refl Never wA).drew, c0, c1, c2⟩ (fun hH => ?_)
  refine' wpAnyH_take (i := 0) ?hi0 (by kernel_rfl) (by kernel_rfl) (by kernel_rfl) ?hQ0 (Or.inl ⟨?hw0, ?hy0⟩) (by assumption) ?_
  case hi0 => (simp only [List.getElem?_toArray, List.getElem?_cons_zero]; rfl)
  case hQ0 => exact fun _ _ _ h => h
  case hw0 => rfl
  case hy0 => (intro w' hSw; (try dsimp only at hSw); go_simp; all_goals with_reducible rfl)
  try simp only [Act.put, List.setIfInBounds_toArray, List.set_cons_zero, List.set_cons_succ]
  refine' wpAnyH_take (i := 1) ?hi1 (by kernel_rfl) (by kernel_rfl) (by kernel_rfl) ?hQ1 (Or.inl ⟨?hw1, ?hy1⟩) (by assumption) ?_
  case hi1 => (simp only [List.getElem?_toArray, List.getElem?_cons_succ, List.getElem?_cons_zero]; rfl)
  case hQ1 => exact fun _ _ _ h => h
  case hw1 => rfl
  case hy1 => (intro w' hSw; (try dsimp only at hSw); go_simp; all_goals with_reducible rfl)
  try simp only [Act.put, List.setIfInBounds_toArray, List.set_cons_zero, List.set_cons_succ]
  refine' wpAnyH_take (i := 5) ?hi5 (by kernel_rfl) (by kernel_rfl) (by kernel_rfl) ?hQ5 (Or.inl ⟨?hw5, ?hy5⟩) (by assumption) ?_
  case hi5 => (simp only [List.getElem?_toArray, List.getElem?_cons_succ, List.getElem?_cons_zero]; rfl)
  case hQ5 => exact fun _ _ _ h => h
  case hw5 => rfl
  case hy5 => (intro w' hSw; (try dsimp only at hSw); go_simp; all_goals with_reducible rfl)
  try simp only [Act.put, List.setIfInBounds_toArray, List.set_cons_zero, List.set_cons_succ]
  refine' wpAnyH_take (i := 6) ?hi6 (by kernel_rfl) (by kernel_rfl) (by kernel_rfl) ?hQ6 (Or.inl ⟨?hw6, ?hy6⟩) (by assumption) ?_
  case hi6 => (simp only [List.getElem?_toArray, List.getElem?_cons_succ, List.getElem?_cons_zero]; rfl)
  case hQ6 => exact fun _ _ _ h => h
  case hw6 => rfl
  case hy6 => (intro w' hSw; (try dsimp only at hSw); go_simp; all_goals with_reducible rfl)
  try simp only [Act.put, List.setIfInBounds_toArray, List.set_cons_zero, List.set_cons_succ]
  refine' wpAnyH_take (i := 10) ?hi10 (by kernel_rfl) (by kernel_rfl) (by kernel_rfl) ?hQ10 (Or.inl ⟨?hw10, ?hy10⟩) (by assumption) ?_
  case hi10 => (simp only [List.getElem?_toArray, List.getElem?_cons_succ, List.getElem?_cons_zero]; rfl)
  case hQ10 => exact fun _ _ _ h => h
  case hw10 => rfl
  case hy10 => (intro w' hSw; (try dsimp only at hSw); go_simp; all_goals with_reducible rfl)
  try simp only [Act.put, List.setIfInBounds_toArray, List.set_cons_zero, List.set_cons_succ]
  refine' wpAnyH_take (i := 11) ?hi11 (by kernel_rfl) (by kernel_rfl) (by kernel_rfl) ?hQ11 (Or.inl ⟨?hw11, ?hy11⟩) (by assumption) ?_
  case hi11 => (simp only [List.getElem?_toArray, List.getElem?_cons_succ, List.getElem?_cons_zero]; rfl)
  case hQ11 => exact fun _ _ _ h => h
  case hw11 => rfl
  case hy11 => (intro w' hSw; (try dsimp only at hSw); go_simp; all_goals with_reducible rfl)
  try simp only [Act.put, List.setIfInBounds_toArray, List.set_cons_zero, List.set_cons_succ]
  refine wpAnyH_ready (rs := [2]) (by kernel_rfl) (by simp) ?_
  refine AllReadyH.cons rfl (fun K hK => ?_) AllReadyH.nil
  go_simp
  (go_at_call 96; refine (F1 _).mono ?_; rintro e wq ⟨rfl, rfl⟩)
  try go_wp2_with fail
  refine hK.out _ _ ?_ (fun hH => ?_)
  · assumption
  clear hK K
  try simp only [Act.put, List.setIfInBounds_toArray, List.set_cons_zero, List.set_cons_succ]
  refine' wpAnyH_take (i := 3) ?hi3 (by kernel_rfl) (by kernel_rfl) (by kernel_rfl) ?hQ3 (Or.inl ⟨?hw3, ?hy3⟩) (by assumption) ?_
  case hi3 => (simp only [List.getElem?_toArray, List.getElem?_cons_succ, List.getElem?_cons_zero]; rfl)
  case hQ3 => exact fun _ _ _ h => h
  case hw3 => rfl
  case hy3 => (intro w' hSw; (try dsimp only at hSw); go_simp; all_goals with_reducible rfl)
  try simp only [Act.put, List.setIfInBounds_toArray, List.set_cons_zero, List.set_cons_succ]
  refine' wpAnyH_take (i := 4) ?hi4 (by kernel_rfl) (by kernel_rfl) (by kernel_rfl) ?hQ4 (Or.inl ⟨?hw4, ?hy4⟩) (by assumption) ?_
  case hi4 => (simp only [List.getElem?_toArray, List.getElem?_cons_succ, List.getElem?_cons_zero]; rfl)
  case hQ4 => exact fun _ _ _ h => h
  case hw4 => rfl
  case hy4 => (intro w' hSw; (try dsimp only at hSw); go_simp; all_goals with_reducible rfl)
  try simp only [Act.put, List.setIfInBounds_toArray, List.set_cons_zero, List.set_cons_succ]
  refine wpAnyH_ready (rs := [7]) (by kernel_rfl) (by simp) ?_
  refine AllReadyH.cons rfl (fun K hK => ?_) AllReadyH.nil
  go_simp
  (go_at_call 96; refine (F2 _).mono ?_; rintro e wq ⟨rfl, rfl⟩)
  try go_wp2_with fail
  refine hK.out _ _ ?_ (fun hH => ?_)
  · assumption
  clear hK K
  try simp only [Act.put, List.setIfInBounds_toArray, List.set_cons_zero, List.set_cons_succ]
  refine' wpAnyH_take (i := 8) ?hi8 (by kernel_rfl) (by kernel_rfl) (by kernel_rfl) ?hQ8 (Or.inl ⟨?hw8, ?hy8⟩) (by assumption) ?_
  case hi8 => (simp only [List.getElem?_toArray, List.getElem?_cons_succ, List.getElem?_cons_zero]; rfl)
  case hQ8 => exact fun _ _ _ h => h
  case hw8 => rfl
  case hy8 => (intro w' hSw; (try dsimp only at hSw); go_simp; all_goals with_reducible rfl)
  try simp only [Act.put, List.setIfInBounds_toArray, List.set_cons_zero, List.set_cons_succ]
  refine' wpAnyH_take (i := 9) ?hi9 (by kernel_rfl) (by kernel_rfl) (by kernel_rfl) ?hQ9 (Or.inl ⟨?hw9, ?hy9⟩) (by assumption) ?_
  case hi9 => (simp only [List.getElem?_toArray, List.getElem?_cons_succ, List.getElem?_cons_zero]; rfl)
  case hQ9 => exact fun _ _ _ h => h
  case hw9 => rfl
  case hy9 => (intro w' hSw; (try dsimp only at hSw); go_simp; all_goals with_reducible rfl)
  try simp only [Act.put, List.setIfInBounds_toArray, List.set_cons_zero, List.set_cons_succ]
  refine' wpAnyH_take (i := 12) ?hi12 (by kernel_rfl) (by kernel_rfl) (by kernel_rfl) ?hQ12 (Or.inl ⟨?hw12, ?hy12⟩) (by assumption) ?_
  case hi12 => (simp only [List.getElem?_toArray, List.getElem?_cons_succ, List.getElem?_cons_zero]; rfl)
  case hQ12 => exact fun _ _ _ h => h
  case hw12 => rfl
  case hy12 => (intro w' hSw; (try dsimp only at hSw); go_simp; all_goals with_reducible rfl)
  try simp only [Act.put, List.setIfInBounds_toArray, List.set_cons_zero, List.set_cons_succ]
  refine' wpAnyH_take (i := 13) ?hi13 (by kernel_rfl) (by kernel_rfl) (by kernel_rfl) ?hQ13 (Or.inl ⟨?hw13, ?hy13⟩) (by assumption) ?_
  case hi13 => (simp only [List.getElem?_toArray, List.getElem?_cons_succ, List.getElem?_cons_zero]; rfl)
  case hQ13 => exact fun _ _ _ h => h
  case hw13 => rfl
  case hy13 => (intro w' hSw; (try dsimp only at hSw); go_simp; all_goals with_reducible rfl)
  try simp only [Act.put, List.setIfInBounds_toArray, List.set_cons_zero, List.set_cons_succ]
  refine wpAnyH_done (by kernel_rfl) ?_ _
  rename (Chg Never wA _ ∧ _) => hF
  have hcF := hA.trans hF.1
  clear hF
  go_wp2_with fail
  go_ret
  exact ⟨by rw [← HS.out]; rfl, hcF⟩
set_option maxHeartbeats 1000000 in
set_option maxRecDepth 100000 in
theorem partid_any (t : ByteArray) (a b : Nat) (v : Value) (w : World) (ha : a ≤ 8) (hb : b ≤ 8) :
    Calls Tryz.prog 45 #[partV t a b v] w fun e w' => e = .returned (.string (toB (idL a b))) ∧ Chg Never w w' := by
  obtain ⟨hA, -, c1, c2, -⟩ := box1_part w 97 t a b v _ rfl
  have F1 : ∀ wx, Calls Tryz.prog 96 #[.int .i64 a] wx fun e w' => e = .returned (.string (toB (Lib.decDigits a))) ∧ w' = wx := fun wx => by
    have := itoa_any (a : Int) a rfl (by omega) wx
    rw [itoa_nat] at this
    exact this
  have F2 : ∀ wx, Calls Tryz.prog 96 #[.int .i64 b] wx fun e w' => e = .returned (.string (toB (Lib.decDigits b))) ∧ w' = wx := fun wx => by
    have := itoa_any (b : Int) b rfl (by omega) wx
    rw [itoa_nat] at this
    exact this
  have z1 : (toB (Lib.decDigits a)).size = 1 := by rw [toB_size', dig_small a ha]
  have z2 : (toB (Lib.decDigits b)).size = 1 := by rw [toB_size', dig_small b hb]
  have HS := Lib.hid (id_str a b)
  obtain ⟨D1, hD1⟩ : ∃ D, toB (Lib.decDigits a) = D := ⟨_, rfl⟩
  obtain ⟨D2, hD2⟩ : ∃ D, toB (Lib.decDigits b) = D := ⟨_, rfl⟩
  rw [hD1] at F1 z1 HS
  rw [hD2] at F2 z2 HS
  clear hD1 hD2
  have n1 : ¬ (9223372036854775807 < D1.size + 1) := by omega
  have n2 : ¬ (9223372036854775807 < D1.size + 1 + D2.size) := by omega
  go_enter Tryz.func45, Tryz.ntmps45
  go_wp2_with fail
  generalize w.alloc (.cells #[.string t, .int .i64 a, .int .i64 b, v] 97) = wA at hA c1 c2 ⊢
  generalize w.heap.size = B at c1 c2 ⊢
  refine wp_region_held_drew (S := fun w' => Chg Never wA w' ∧ w'.cell? ⟨B, 1, none⟩ = some (.int .i64 a) ∧ w'.cell? ⟨B, 2, none⟩ = some (.int .i64 b)) (by kernel_rfl) ⟨(Chg.refl Never wA).drew, c1, c2⟩ (fun hH => ?_)
  refine' wpAnyH_take (i := 0) ?hi0 (by kernel_rfl) (by kernel_rfl) (by kernel_rfl) ?hQ0 (Or.inl ⟨?hw0, ?hy0⟩) (by assumption) ?_
  case hi0 => (simp only [List.getElem?_toArray, List.getElem?_cons_zero]; rfl)
  case hQ0 => exact fun _ _ _ h => h
  case hw0 => rfl
  case hy0 => (intro w' hSw; (try dsimp only at hSw); go_simp; all_goals with_reducible rfl)
  try simp only [Act.put, List.setIfInBounds_toArray, List.set_cons_zero, List.set_cons_succ]
  refine' wpAnyH_take (i := 1) ?hi1 (by kernel_rfl) (by kernel_rfl) (by kernel_rfl) ?hQ1 (Or.inl ⟨?hw1, ?hy1⟩) (by assumption) ?_
  case hi1 => (simp only [List.getElem?_toArray, List.getElem?_cons_succ, List.getElem?_cons_zero]; rfl)
  case hQ1 => exact fun _ _ _ h => h
  case hw1 => rfl
  case hy1 => (intro w' hSw; (try dsimp only at hSw); go_simp; all_goals with_reducible rfl)
  try simp only [Act.put, List.setIfInBounds_toArray, List.set_cons_zero, List.set_cons_succ]
  refine' wpAnyH_take (i := 4) ?hi4 (by kernel_rfl) (by kernel_rfl) (by kernel_rfl) ?hQ4 (Or.inl ⟨?hw4, ?hy4⟩) (by assumption) ?_
  case hi4 => (simp only [List.getElem?_toArray, List.getElem?_cons_succ, List.getElem?_cons_zero]; rfl)
  case hQ4 => exact fun _ _ _ h => h
  case hw4 => rfl
  case hy4 => (intro w' hSw; (try dsimp only at hSw); go_simp; all_goals with_reducible rfl)
  try simp only [Act.put, List.setIfInBounds_toArray, List.set_cons_zero, List.set_cons_succ]
  refine' wpAnyH_take (i := 5) ?hi5 (by kernel_rfl) (by kernel_rfl) (by kernel_rfl) ?hQ5 (Or.inl ⟨?hw5, ?hy5⟩) (by assumption) ?_
  case hi5 => (simp only [List.getElem?_toArray, List.getElem?_cons_succ, List.getElem?_cons_zero]; rfl)
  case hQ5 => exact fun _ _ _ h => h
  case hw5 => rfl
  case hy5 => (intro w' hSw; (try dsimp only at hSw); go_simp; all_goals with_reducible rfl)
  try simp only [Act.put, List.setIfInBounds_toArray, List.set_cons_zero, List.set_cons_succ]
  refine wpAnyH_ready (rs := [2]) (by kernel_rfl) (by simp) ?_
  refine AllReadyH.cons rfl (fun K hK => ?_) AllReadyH.nil
  go_simp
  (go_at_call 96; refine (F1 _).mono ?_; rintro e wq ⟨rfl, rfl⟩)
  try go_wp2_with fail
  refine hK.out _ _ ?_ (fun hH => ?_)
  · assumption
  clear hK K
  try simp only [Act.put, List.setIfInBounds_toArray, List.set_cons_zero, List.set_cons_succ]
  refine' wpAnyH_take (i := 3) ?hi3 (by kernel_rfl) (by kernel_rfl) (by kernel_rfl) ?hQ3 (Or.inl ⟨?hw3, ?hy3⟩) (by assumption) ?_
  case hi3 => (simp only [List.getElem?_toArray, List.getElem?_cons_succ, List.getElem?_cons_zero]; rfl)
  case hQ3 => exact fun _ _ _ h => h
  case hw3 => rfl
  case hy3 => (intro w' hSw; (try dsimp only at hSw); go_simp; all_goals with_reducible rfl)
  try simp only [Act.put, List.setIfInBounds_toArray, List.set_cons_zero, List.set_cons_succ]
  refine wpAnyH_ready (rs := [6]) (by kernel_rfl) (by simp) ?_
  refine AllReadyH.cons rfl (fun K hK => ?_) AllReadyH.nil
  go_simp
  (go_at_call 96; refine (F2 _).mono ?_; rintro e wq ⟨rfl, rfl⟩)
  try go_wp2_with fail
  refine hK.out _ _ ?_ (fun hH => ?_)
  · assumption
  clear hK K
  try simp only [Act.put, List.setIfInBounds_toArray, List.set_cons_zero, List.set_cons_succ]
  refine' wpAnyH_take (i := 7) ?hi7 (by kernel_rfl) (by kernel_rfl) (by kernel_rfl) ?hQ7 (Or.inl ⟨?hw7, ?hy7⟩) (by assumption) ?_
  case hi7 => (simp only [List.getElem?_toArray, List.getElem?_cons_succ, List.getElem?_cons_zero]; rfl)
  case hQ7 => exact fun _ _ _ h => h
  case hw7 => rfl
  case hy7 => (intro w' hSw; (try dsimp only at hSw); go_simp; all_goals with_reducible rfl)
  try simp only [Act.put, List.setIfInBounds_toArray, List.set_cons_zero, List.set_cons_succ]
  refine' wpAnyH_take (i := 8) ?hi8 (by kernel_rfl) (by kernel_rfl) (by kernel_rfl) ?hQ8 (Or.inl ⟨?hw8, ?hy8⟩) (by assumption) ?_
  case hi8 => (simp only [List.getElem?_toArray, List.getElem?_cons_succ, List.getElem?_cons_zero]; rfl)
  case hQ8 => exact fun _ _ _ h => h
  case hw8 => rfl
  case hy8 => (intro w' hSw; (try dsimp only at hSw); go_simp; all_goals with_reducible rfl)
  try simp only [Act.put, List.setIfInBounds_toArray, List.set_cons_zero, List.set_cons_succ]
  refine wpAnyH_done (by kernel_rfl) ?_ _
  rename (Chg Never wA _ ∧ _) => hF
  have hcF := hA.trans hF.1
  clear hF
  go_wp2_with fail
  go_ret
  exact ⟨by rw [← HS.out]; rfl, hcF⟩
end Go.Proofs.YtjiaidchcldocaaGreatDoor
namespace Go.Proofs.YtjiaidchcldocaaGreatDoor

end Go.Proofs.YtjiaidchcldocaaGreatDoor
namespace Go.Proofs.YtjiaidchcldocaaGreatDoor

theorem cut_index {t : List UInt8} (ht : t ≠ []) : ∀ (s : List UInt8), match cutSub t s with
    | none => Lib.index s t = -1
    | some p => Lib.index s t = (p.1.length : Int) ∧ p.1 = s.take p.1.length ∧ p.2 = s.drop (p.1.length + t.length)
  | [] => by
    rw [cutSub, if_neg ht]
    show Lib.index [] t = -1
    unfold Lib.index
    rw [if_neg (by simpa using ht)]
  | c :: r => by
    have ih := cut_index ht r
    rw [cutSub]
    by_cases hp : t.isPrefixOf (c :: r) = true
    · rw [if_pos hp]
      refine ⟨?_, rfl, by simp⟩
      unfold Lib.index
      rw [if_pos hp]; rfl
    · rw [if_neg hp]
      cases hc : cutSub t r with
      | none =>
        rw [hc] at ih
        show Lib.index (c :: r) t = -1
        unfold Lib.index
        rw [if_neg hp, ih]; rfl
      | some p =>
        rw [hc] at ih
        obtain ⟨h1, h2, h3⟩ := ih
        show Lib.index (c :: r) t = ((c :: p.1).length : Int) ∧ c :: p.1 = (c :: r).take (c :: p.1).length ∧ p.2 = (c :: r).drop ((c :: p.1).length + t.length)
        refine ⟨?_, ?_, ?_⟩
        · unfold Lib.index
          rw [if_neg hp, h1, if_neg (by simp), List.length_cons]; omega
        · rw [List.length_cons, List.take_succ_cons, ← h2]
        · rw [List.length_cons, show p.1.length + 1 + t.length = p.1.length + t.length + 1 by omega, List.drop_succ_cons]; exact h3
end Go.Proofs.YtjiaidchcldocaaGreatDoor
namespace Go.Proofs.YtjiaidchcldocaaGreatDoor
open Go.RowKit

theorem atoi_three : ∀ n, n < 1000 → Lib.atoi (dec3 n) = some (n : Int) := by decide +kernel
theorem num_atoi {l : List UInt8} {n : Nat} (h : numOf l = some n) : Lib.atoiAll l = .ok (n : Int) ∧ l.length ≤ 3 ∧ Lib.itoa n = l ∧ n < 1000 := by
  obtain ⟨h1, h2⟩ := num_some h
  have h3 : l.length ≤ 3 := by rw [← h2]; exact dec_len h1
  refine ⟨?_, h3, by rw [itoa_nat, h2], h1⟩
  rw [Lib.atoiAll_short l (by omega), ← h2, digits_three h1, atoi_three n h1]
  rfl
theorem num_of_ok {l : List UInt8} {v : Int} (h0 : 0 ≤ v) (h3 : l.length ≤ 3) (he : Lib.itoa v = l) : numOf l = some v.toNat := by
  obtain ⟨n, rfl⟩ : ∃ n : Nat, v = n := ⟨v.toNat, by omega⟩
  rw [itoa_nat] at he
  have hl : n < 1000 := by
    have h1 := Lib.lt_pow_nDigits n
    have h2 := Lib.decDigits_length n
    rw [he] at h2
    have : (10 : Nat) ^ Lib.nDigits n ≤ 10 ^ 3 := Nat.pow_le_pow_right (by decide) (by omega)
    omega
  rw [← he, num_dec hl]; rfl
def AtoiBad (w : World) (e : Ending) (w' : World) : Prop := ∃ (x : Int) (T : TypeId) (p : Value), I64 x ∧ e = .returned (.tuple #[.int .i64 x, .iface T p]) ∧ Chg Never w w'
theorem atoi_bad (s : ByteArray) (hs : s.size ≤ 1000000000) (h : ∀ v, Lib.atoiAll s.data.toList ≠ .ok v) (w : World) (m : Int) (hg : Globs w m) :
    Calls Tryz.prog 99 #[.string s] w (AtoiBad w) := by
  obtain ⟨e1, h3, h4⟩ := hg.es
  obtain ⟨e2, h5, h6⟩ := hg.er
  cases hx : Lib.atoiAll s.data.toList with
  | ok v => exact absurd hx (h v)
  | range =>
    refine (Tryz.strconv_Atoi_range s (by omega) hx e2 w h5 h6).mono ?_
    rintro e w' ⟨N, rfl, _, _, hb⟩
    obtain ⟨b0, b1⟩ := Lib.atoiSat_bounds s.data.toList
    exact ⟨_, _, _, ⟨by omega, by omega⟩, rfl, Chg.of_below hb⟩
  | _ =>
    refine (Any.strconv_Atoi_syntax Tryz.laysC172 s (by omega) hx e1 w h3 h4).mono ?_
    rintro e w' ⟨N, rfl, _, _, hb⟩
    exact ⟨_, _, _, ⟨by omega, by omega⟩, rfl, Chg.of_below hb⟩
def NumPost (s : ByteArray) (w : World) (e : Ending) (w' : World) : Prop :=
  ∃ x : Int, I64 x ∧ e = .returned (.tuple #[.int .i64 x, .bool (numOf s.data.toList).isSome]) ∧ (∀ n, numOf s.data.toList = some n → x = n) ∧ Chg Never w w'
theorem numPost_no {s : ByteArray} {w w' : World} {e : Ending} (x : Int) (hx : I64 x) (hn : numOf s.data.toList = none) (he : e = .returned (.tuple #[.int .i64 x, .bool false])) (hc : Chg Never w w') : NumPost s w e w' := by
  refine ⟨x, hx, by rw [hn]; exact he, ?_, hc⟩
  intro n h
  rw [hn] at h; cases h
theorem numPost_yes {s : ByteArray} {w w' : World} {e : Ending} (x : Int) (hx : I64 x) (hn : numOf s.data.toList = some x.toNat) (h0 : 0 ≤ x) (he : e = .returned (.tuple #[.int .i64 x, .bool true])) (hc : Chg Never w w') : NumPost s w e w' := by
  refine ⟨x, hx, by rw [hn]; exact he, ?_, hc⟩
  intro n h
  rw [hn] at h; injection h with h; omega
set_option maxHeartbeats 1000000 in
set_option maxRecDepth 100000 in
theorem number_any (s : ByteArray) (hs : s.size ≤ 1000000000) (w : World) (m : Int) (hg : Globs w m) :
    Calls Tryz.prog 205 #[.string s] w (NumPost s w) := by
  by_cases hok : ∃ v, Lib.atoiAll s.data.toList = .ok v
  · obtain ⟨v, hv⟩ := hok
    obtain ⟨vb0, vb1⟩ := Lib.atoiAll_bounds hv
    have hvi : I64 v := ⟨by omega, by omega⟩
    have hno : numOf s.data.toList = none ∨ numOf s.data.toList = some v.toNat ∧ 0 ≤ v ∧ s.size ≤ 3 ∧ Lib.itoa v = s.data.toList := by
      cases hn : numOf s.data.toList with
      | none => exact .inl rfl
      | some n =>
        obtain ⟨q1, q2, q3, _⟩ := num_atoi hn
        rw [hv] at q1
        injection q1 with q1
        subst q1
        exact .inr ⟨by simp, by omega, by rw [Lib.size_eq]; exact q2, q3⟩
    have HNO := Lib.hid hno
    have HV := Lib.hid hv
    clear hno hv
    go_enter Tryz.func205, Tryz.ntmps205
    go_wp2_with fail
    refine (Tryz.strconv_Atoi_ok s (by omega) v HV.out _).mono ?_
    rintro e w1 ⟨rfl, hW⟩
    have hc1 : Chg Never w w1 := by
      rcases hW with rfl | ⟨t, rfl⟩
      · exact Chg.refl _ _
      · exact Chg.of_below (Lib.bytesWorld_below _ _ _)
    clear hW
    by_cases v0 : 0 ≤ v
    · by_cases l3 : s.size ≤ 3
      · have t3 : decide ((s.size : Int) ≤ 3) = true := decide_eq_true (by omega)
        go_wp2_with fail
        refine (Tryz.strconv_Itoa v vb0 (by omega) _ (hg.never hc1).tab).mono ?_
        rintro e w2 ⟨rfl, k, os, rfl⟩
        have hc2 := hc1.trans (chg_grow w1 k os)
        by_cases he : Lib.itoa v = s.data.toList
        · have hyes := Lib.hid (num_of_ok v0 (by rw [← Lib.size_eq]; exact l3) he)
          have ht : ((⟨(Lib.itoa v).toArray⟩ : ByteArray).toList == s.toList) = true := by rw [Lib.toList_data, Lib.toList_data, he]; simp
          clear he HNO
          generalize (⟨(Lib.itoa v).toArray⟩ : ByteArray) = X at ht ⊢
          go_wp2_with fail
          go_ret2
          exact numPost_yes v hvi hyes.out v0 rfl hc2
        · have hn : Hid (numOf s.data.toList = none) := by
            rcases HNO.out with q | q
            · exact q
            · exact absurd q.2.2.2 he
          have ht : ((⟨(Lib.itoa v).toArray⟩ : ByteArray).toList == s.toList) = false := by rw [Lib.toList_data, Lib.toList_data]; simpa using he
          clear he HNO
          generalize (⟨(Lib.itoa v).toArray⟩ : ByteArray) = X at ht ⊢
          go_wp2_with fail
          go_ret2
          exact numPost_no v hvi hn.out rfl hc2
      · have hn : Hid (numOf s.data.toList = none) := by
          rcases HNO.out with q | q
          · exact q
          · exact absurd q.2.2.1 l3
        have t3 : decide ((s.size : Int) ≤ 3) = false := decide_eq_false (by omega)
        clear HNO
        go_wp2_with fail
        go_ret2
        exact numPost_no v hvi hn.out rfl hc1
    · have hn : Hid (numOf s.data.toList = none) := by
        rcases HNO.out with q | q
        · exact q
        · exact absurd q.2.1 v0
      have t0 : decide ((0 : Int) ≤ v) = false := decide_eq_false v0
      clear HNO
      go_wp2_with fail
      go_ret2
      exact numPost_no v hvi hn.out rfl hc1
  · have hn : Hid (numOf s.data.toList = none) := by
      cases hn : numOf s.data.toList with
      | none => rfl
      | some n => exact absurd ⟨_, (num_atoi hn).1⟩ hok
    go_enter Tryz.func205, Tryz.ntmps205
    go_wp2_with fail
    refine (atoi_bad s hs (fun v q => hok ⟨v, q⟩) _ m hg).mono ?_
    rintro e w1 ⟨x, T, p, hx, rfl, hc1⟩
    clear hok
    go_wp2_with fail
    go_ret2
    exact numPost_no x hx hn.out rfl hc1

/-- what read answers: a span's two numbers where it is one -/
def ReadPost (s : ByteArray) (w : World) (e : Ending) (w' : World) : Prop :=
  ∃ x y : Int, e = .returned (.tuple #[.int .i64 x, .int .i64 y, .bool (spanOf s.data.toList).isSome]) ∧ (∀ a n, spanOf s.data.toList = some (a, n) → x = a ∧ y = (n : Int)) ∧ Chg Never w w'
theorem readPost_no {s : ByteArray} {w w' : World} {e : Ending} (x y : Int) (hn : spanOf s.data.toList = none) (he : e = .returned (.tuple #[.int .i64 x, .int .i64 y, .bool false])) (hc : Chg Never w w') : ReadPost s w e w' := by
  refine ⟨x, y, by rw [hn]; exact he, ?_, hc⟩
  intro a n h
  rw [hn] at h; cases h
theorem readPost_yes {s : ByteArray} {w w' : World} {e : Ending} (x : Int) (y : Nat) (hn : spanOf s.data.toList = some (x, y)) (he : e = .returned (.tuple #[.int .i64 x, .int .i64 y, .bool true])) (hc : Chg Never w w') : ReadPost s w e w' := by
  refine ⟨x, y, by rw [hn]; exact he, ?_, hc⟩
  intro a n h
  rw [hn] at h
  injection h with h
  injection h with h1 h2
  exact ⟨h1, by rw [h2]⟩
/-- strings.Cut's parts -/
def cutA (t s : List UInt8) : List UInt8 := match cutSub t s with
  | none => s
  | some p => p.1
def cutB (t s : List UInt8) : List UInt8 := match cutSub t s with
  | none => []
  | some p => p.2
theorem lib_cut {t s : List UInt8} (ht : t ≠ []) : Lib.cut s t = (cutA t s, cutB t s, (cutSub t s).isSome) := by
  have h := cut_index ht s
  unfold Lib.cut cutA cutB
  cases hc : cutSub t s with
  | none =>
    rw [hc] at h
    simp only at h ⊢
    simp [h]
  | some p =>
    rw [hc] at h
    obtain ⟨h1, h2, h3⟩ := h
    simp only
    rw [h1]
    simp [← h2, ← h3]
theorem cutA_len (t s : List UInt8) : (cutA t s).length ≤ s.length := by
  unfold cutA
  cases hc : cutSub t s with
  | none => exact Nat.le_refl _
  | some p => have := congrArg List.length (cut_some (a := p.1) (b := p.2) hc); simp only [List.length_append] at this; simp only; omega
theorem cutB_len (t s : List UInt8) : (cutB t s).length ≤ s.length := by
  unfold cutB
  cases hc : cutSub t s with
  | none => exact Nat.zero_le _
  | some p => have := congrArg List.length (cut_some (a := p.1) (b := p.2) hc); simp only [List.length_append] at this; simp only; omega
theorem span_cut (s : List UInt8) : spanOf s = match numOf (cutA [44] s) with
    | none => none
    | some x => match numOf (cutB [44] s) with
      | none => none
      | some y => if 0 < y then (if x = 0 then none else some ((x : Int) - 1, y)) else some ((x : Int), y) := by
  unfold spanOf cutA cutB
  cases hc : cutSub [44] s with
  | none =>
    simp only
    have : numOf [] = none := rfl
    rw [this]
    cases numOf s <;> rfl
  | some p => rfl

set_option maxHeartbeats 1000000 in
set_option maxRecDepth 100000 in
theorem read_any (s : ByteArray) (hs : s.size ≤ 1000000000) (w : World) (m : Int) (hg : Globs w m) :
    Calls Tryz.prog 173 #[.string s] w (ReadPost s w) := by
  have hsp := span_cut s.data.toList
  have hA := cutA_len [44] s.data.toList
  have hB := cutB_len [44] s.data.toList
  rw [← Lib.size_eq] at hA hB
  obtain ⟨ca, hca⟩ : ∃ x, cutA [44] s.data.toList = x := ⟨_, rfl⟩
  obtain ⟨cb, hcb⟩ : ∃ x, cutB [44] s.data.toList = x := ⟨_, rfl⟩
  have hcut : Hid (Lib.cut s.data.toList (toB [44]).data.toList = (ca, cb, (cutSub [44] s.data.toList).isSome)) := by rw [Hid, toB_data, lib_cut (by simp), hca, hcb]
  rw [hca] at hsp hA
  rw [hcb] at hsp hB
  have HSP := Lib.hid hsp
  clear hsp hca hcb
  go_enter Tryz.func173, Tryz.ntmps173
  go_wp2_with fail
  refine (Tryz.strings_Cut s (toB [44]) m _ (by omega) hg.ml).mono ?_
  rintro e w1 ⟨rfl, nd, rfl⟩
  have hc1 : Chg Never w (w.drewN nd) := (Chg.refl Never w).drewN nd
  rw [hcut.out]
  generalize (cutSub [44] s.data.toList).isSome = fb
  generalize w.drewN nd = w1 at hc1 ⊢
  go_wp2_with fail
  refine (number_any (toB ca) (by rw [toB_size']; omega) _ m (hg.never hc1)).mono ?_
  rintro e w2 ⟨x, hx, rfl, hxn, hc2⟩
  rw [toB_data] at hxn ⊢
  have hc2 := hc1.trans hc2
  go_wp2_with fail
  refine (number_any (toB cb) (by rw [toB_size']; omega) _ m (hg.never hc2)).mono ?_
  rintro e w3 ⟨y, hy, rfl, hyn, hc3⟩
  rw [toB_data] at hyn ⊢
  have hc3 := hc2.trans hc3
  clear hc1 hc2 hcut hA hB
  cases ha : numOf ca with
  | none =>
    have hn : Hid (spanOf s.data.toList = none) := by rw [Hid, HSP.out, ha]
    clear hxn hyn HSP ha
    rw [Option.isSome_none]
    generalize (numOf cb).isSome = fb2
    by_cases hy0 : 0 < y
    · have t0 : decide ((0 : Int) < y) = true := decide_eq_true hy0
      go_wp2_with fail
      go_ret3
      exact readPost_no _ _ hn.out rfl hc3
    · have t0 : decide ((0 : Int) < y) = false := decide_eq_false hy0
      go_wp2_with fail
      go_ret3
      exact readPost_no _ _ hn.out rfl hc3
  | some n1 =>
    have hn1 := numOf_lt ha
    have hx1 := hxn n1 ha
    subst hx1
    rw [Option.isSome_some]
    cases hb : numOf cb with
    | none =>
      have hn : Hid (spanOf s.data.toList = none) := by rw [Hid, HSP.out, ha, hb]
      clear hxn hyn HSP ha hb
      rw [Option.isSome_none]
      by_cases hy0 : 0 < y
      · have t0 : decide ((0 : Int) < y) = true := decide_eq_true hy0
        go_wp2_with fail
        go_ret3
        exact readPost_no _ _ hn.out rfl hc3
      · have t0 : decide ((0 : Int) < y) = false := decide_eq_false hy0
        go_wp2_with fail
        go_ret3
        exact readPost_no _ _ hn.out rfl hc3
    | some n2 =>
      have hn2 := numOf_lt hb
      have hy1 := hyn n2 hb
      subst hy1
      rw [Option.isSome_some]
      have HS : Hid (spanOf s.data.toList = if 0 < n2 then (if n1 = 0 then none else some ((n1 : Int) - 1, n2)) else some ((n1 : Int), n2)) := by rw [Hid, HSP.out, ha, hb]
      clear hxn hyn HSP ha hb
      by_cases h2 : 0 < n2
      · have t0 : decide ((0 : Int) < (n2 : Int)) = true := decide_eq_true (by omega)
        have t0n : decide (0 < n2) = true := decide_eq_true h2
        by_cases h1 : n1 = 0
        · subst h1
          have hn : Hid (spanOf s.data.toList = none) := by rw [Hid, HS.out, if_pos h2, if_pos rfl]
          clear HS
          go_wp2_with fail
          go_ret3
          exact readPost_no _ _ hn.out rfl hc3
        · have hn : Hid (spanOf s.data.toList = some ((n1 : Int) - 1, n2)) := by rw [Hid, HS.out, if_pos h2, if_neg h1]
          have g1 : (0 : Int) ≤ (n1 : Int) - 1 := by omega
          have g2 : (1 : Int) ≤ (n1 : Int) := by omega
          have g3 : decide ((0 : Int) ≤ (n1 : Int) - 1) = true := decide_eq_true g1
          clear HS
          go_wp2_with fail
          go_ret3
          exact readPost_yes _ _ hn.out rfl hc3
      · have t0 : decide ((0 : Int) < (n2 : Int)) = false := decide_eq_false (by omega)
        have t0n : decide (0 < n2) = false := decide_eq_false h2
        have hn : Hid (spanOf s.data.toList = some ((n1 : Int), n2)) := by rw [Hid, HS.out, if_neg h2]
        obtain rfl : n2 = 0 := by omega
        clear HS
        go_wp2_with fail
        go_ret3
        exact readPost_yes _ _ hn.out rfl hc3
end Go.Proofs.YtjiaidchcldocaaGreatDoor
namespace Go.Proofs.YtjiaidchcldocaaGreatDoor

def subA (m : Mail) : List UInt8 := cutA [47] (Lib.trimPrefix m.subject.data.toList patW)
def subB (m : Mail) : List UInt8 := cutA [93, 32] (cutB [47] (Lib.trimPrefix m.subject.data.toList patW))
def subT (m : Mail) : List UInt8 := cutB [93, 32] (cutB [47] (Lib.trimPrefix m.subject.data.toList patW))
/-- all tests of read are passed -/
def ReadOk (m : Mail) (x y : Int) : Prop := Lib.atoiAll (subA m) = .ok x ∧ Lib.atoiAll (subB m) = .ok y ∧ 0 ≤ x ∧ x ≤ y ∧ y ≤ 8 ∧ titledB (subT m) = true ∧ m.sender.data.toList = handW ∧ m.subject.data.toList = subjL x.toNat y.toNat (subT m) ∧ m.ident.data.toList = idL x.toNat y.toNat ∧ ¬ (x = 0 ∧ m.body ≠ [])
theorem read_of {m : Mail} {x y : Int} (h : ReadOk m x y) : mpartOf m = some (subT m, x.toNat, y.toNat) := by
  obtain ⟨-, -, h1, h2, h3, h4, h5, h6, h7, h8⟩ := h
  have e : m = partMail (subT m) x.toNat y.toNat m.body := by
    obtain ⟨ms, mu, mi, mb⟩ := m
    simp only at h5 h6 h7
    unfold partMail
    rw [← h6, ← h5, ← h7, toB_of, toB_of, toB_of]
  rw [e]
  have := part_back (t := subT m) (body := m.body) (a := x.toNat) (b := y.toNat) (by omega) (by omega) h4 (fun q => Decidable.byContradiction fun hb => h8 ⟨by omega, hb⟩)
  rw [← e] at this ⊢
  exact this
theorem dec_no {n : Nat} (hn : n ≤ 8) (x : UInt8) (hx : x.toNat < 48 ∨ 57 < x.toNat) : ∀ c ∈ Lib.decDigits n, c ≠ x := fun c hc e => by
  have := dec_digit (show n < 1000 by omega) hc
  rw [e] at this; omega
theorem read_yes {m : Mail} {t : List UInt8} {x y : Nat} (h : mpartOf m = some (t, x, y)) : ReadOk m x y ∧ subT m = t := by
  obtain ⟨h1, h2, h3, h4, h5⟩ := part_some h
  have es : m.subject.data.toList = subjL x y t := by rw [h5]; exact toB_data _
  have ef : m.sender.data.toList = handW := by rw [h5]; exact toB_data _
  have ei : m.ident.data.toList = idL x y := by rw [h5]; exact toB_data _
  have e0 : Lib.trimPrefix m.subject.data.toList patW = Lib.decDigits x ++ [47] ++ (Lib.decDigits y ++ [93, 32] ++ t) := by
    rw [es]
    unfold Lib.trimPrefix subjL
    rw [if_pos (by rw [Lib.hasPrefix, List.isPrefixOf_iff_prefix]; exact ⟨_, rfl⟩), List.drop_left]
  have c1 := cut_at (x := 47) (t := []) (Lib.decDigits y ++ [93, 32] ++ t) (dec_no (n := x) (by omega) 47 (by decide))
  have c2 := cut_at (x := 93) (t := [32]) t (dec_no (n := y) h2 93 (by decide))
  have eA : subA m = Lib.decDigits x := by unfold subA cutA; rw [e0, c1]
  have eR : cutB [47] (Lib.trimPrefix m.subject.data.toList patW) = Lib.decDigits y ++ [93, 32] ++ t := by unfold cutB; rw [e0, c1]
  have eB : subB m = Lib.decDigits y := by unfold subB; rw [eR]; unfold cutA; rw [c2]
  have eT : subT m = t := by unfold subT; rw [eR]; unfold cutB; rw [c2]
  have a1 := (num_atoi (num_dec (show x < 1000 by omega))).1
  have a2 := (num_atoi (num_dec (show y < 1000 by omega))).1
  refine ⟨⟨by rw [eA]; exact a1, by rw [eB]; exact a2, by omega, by omega, by omega, by rw [eT]; exact h3, ef, by rw [eT]; exact es, ei, ?_⟩, eT⟩
  rintro ⟨q, r⟩
  exact r (h4 (by omega))
theorem read_none {m : Mail} (h : ∀ x y, ¬ ReadOk m x y) : mpartOf m = none := by
  cases e : mpartOf m with
  | none => rfl
  | some p => obtain ⟨t, x, y⟩ := p; exact absurd (read_yes e).1 (h _ _)
theorem mail_small {m : Mail} (h : mailFault m = 0) : m.sender.size ≤ 40 ∧ m.subject.size ≤ 40 ∧ m.ident.size ≤ 40 ∧ m.body.length ≤ 40000 := by
  unfold mailFault at h
  split at h
  · cases h
  · rename_i q
    split at h
    · cases h
    · rename_i q2
      simp only [not_or, Bool.not_eq_false] at q
      have wl : ∀ s : List UInt8, wordB s = true → s.length ≤ 40 := fun s hs => by
        unfold wordB at hs
        simp only [Bool.and_eq_true, decide_eq_true_eq] at hs
        exact hs.1.2
      exact ⟨by rw [Lib.size_eq]; exact wl _ q.1, by rw [Lib.size_eq]; exact wl _ q.2.1, by rw [Lib.size_eq]; exact wl _ q.2.2.1, by omega⟩
theorem trim_len (s p : List UInt8) : (Lib.trimPrefix s p).length ≤ s.length := by
  unfold Lib.trimPrefix
  split
  · rw [List.length_drop]; omega
  · exact Nat.le_refl _
theorem pieceF_chk {m : Mail} (h : mailFault m ≠ 0) : pieceF m = mailFault m := if_pos h
theorem pieceF_none {m : Mail} (h : mailFault m = 0) (hn : mpartOf m = none) : pieceF m = 5 := by
  unfold pieceF
  rw [if_neg (by rw [h]; simp), hn]
theorem pieceF_some {m : Mail} {t : List UInt8} {x y : Nat} (h : mailFault m = 0) (hn : mpartOf m = some (t, x, y)) : pieceF m = (parseG m.body).2 ∧ pieceOf m = ⟨t, x, y, (parseG m.body).1⟩ := by
  unfold pieceF pieceOf
  rw [if_neg (by rw [h]; simp), hn]
  exact ⟨rfl, rfl⟩
end Go.Proofs.YtjiaidchcldocaaGreatDoor
namespace Go.Proofs.YtjiaidchcldocaaGreatDoor
open Go.RowKit

def Blk4 (w : World) (B : Nat) (t : TypeId) (x y z u : Value) : Prop := w.heap[B]? = some (.cells #[x, y, z, u] t (0, 0))
theorem Blk4.cell {w : World} {B : Nat} {t : TypeId} {x y z u : Value} (h : Blk4 w B t x y z u) : w.cell? ⟨B, 0, none⟩ = some x ∧ w.cell? ⟨B, 1, none⟩ = some y ∧ w.cell? ⟨B, 2, none⟩ = some z ∧ w.cell? ⟨B, 3, none⟩ = some u := by
  unfold Blk4 at h
  simp [World.cell?, h]
theorem Blk4.free {w : World} {B : Nat} {t : TypeId} {x y z u : Value} (h : Blk4 w B t x y z u) (j : Nat) : w.frozen? ⟨B, j, none⟩ = false := by
  unfold Blk4 at h
  simp [World.frozen?, h]
theorem Blk4.lt {w : World} {B : Nat} {t : TypeId} {x y z u : Value} (h : Blk4 w B t x y z u) : B < w.heap.size := (Array.getElem?_eq_some_iff.1 h).1
theorem Blk4.keep {w w' : World} {B : Nat} {t : TypeId} {x y z u : Value} {O : Nat → Prop} (h : Blk4 w B t x y z u) (hc : Chg O w w') (hB : ¬ O B) : Blk4 w' B t x y z u := by
  have := hc.block B h.lt hB
  unfold Blk4 at *
  rw [this]
  exact h
theorem Blk4.set0 {w : World} {B : Nat} {t : TypeId} {x y z u : Value} (h : Blk4 w B t x y z u) (v : Value) : Blk4 (w.setCell ⟨B, 0, none⟩ v) B t v y z u := by
  unfold Blk4 at *
  simp [World.setCell, Array.getElem?_modify, h]
theorem Blk4.set1 {w : World} {B : Nat} {t : TypeId} {x y z u : Value} (h : Blk4 w B t x y z u) (v : Value) : Blk4 (w.setCell ⟨B, 1, none⟩ v) B t x v z u := by
  unfold Blk4 at *
  simp [World.setCell, Array.getElem?_modify, h]
theorem Blk4.set2 {w : World} {B : Nat} {t : TypeId} {x y z u : Value} (h : Blk4 w B t x y z u) (v : Value) : Blk4 (w.setCell ⟨B, 2, none⟩ v) B t x y v u := by
  unfold Blk4 at *
  simp [World.setCell, Array.getElem?_modify, h]
theorem Blk4.set3 {w : World} {B : Nat} {t : TypeId} {x y z u : Value} (h : Blk4 w B t x y z u) (v : Value) : Blk4 (w.setCell ⟨B, 3, none⟩ v) B t x y z v := by
  unfold Blk4 at *
  simp [World.setCell, Array.getElem?_modify, h]
theorem Blk4.setAll {w : World} {B : Nat} {t : TypeId} {x y z u : Value} (h : Blk4 w B t x y z u) (a b c d : Value) : Blk4 ((((w.setCell ⟨B, 0, none⟩ a).setCell ⟨B, 1, none⟩ b).setCell ⟨B, 2, none⟩ c).setCell ⟨B, 3, none⟩ d) B t a b c d := (((h.set0 a).set1 b).set2 c).set3 d
theorem Blk4.new (w : World) (t : TypeId) (x y z u : Value) : Blk4 (w.alloc (.cells #[x, y, z, u] t)) w.heap.size t x y z u := heap_alloc_new _ _
theorem chg_four {O : Nat → Prop} {w w' : World} {B : Nat} (h : Chg O w w') (hB : w.heap.size ≤ B ∨ O B) (a b c d : Value) : Chg O w ((((w'.setCell ⟨B, 0, none⟩ a).setCell ⟨B, 1, none⟩ b).setCell ⟨B, 2, none⟩ c).setCell ⟨B, 3, none⟩ d) :=
  (((h.setCell (p := ⟨B, 0, none⟩) hB a).setCell (p := ⟨B, 1, none⟩) hB b).setCell (p := ⟨B, 2, none⟩) hB c).setCell (p := ⟨B, 3, none⟩) hB d
end Go.Proofs.YtjiaidchcldocaaGreatDoor
namespace Go.Proofs.YtjiaidchcldocaaGreatDoor
open Go.RowKit

theorem box1_mail (w : World) (T : TypeId) (a b c : ByteArray) (v : Value) (W : World) (hW : W = w.alloc (.cells #[.string a, .string b, .string c, v] T)) :
    Chg Never w W ∧ W.cell? ⟨w.heap.size, 0, none⟩ = some (.string a) ∧ W.cell? ⟨w.heap.size, 1, none⟩ = some (.string b) ∧ W.cell? ⟨w.heap.size, 2, none⟩ = some (.string c) ∧ W.cell? ⟨w.heap.size, 3, none⟩ = some v := by
  subst hW
  have n := heap_alloc_new w (.cells #[.string a, .string b, .string c, v] T)
  refine ⟨(Chg.refl Never w).alloc _, ?_, ?_, ?_, ?_⟩ <;> (simp only [World.cell?]; rw [n]; rfl)
abbrev mailV (m : Mail) (v : Value) : Value := .agg #[.string m.sender, .string m.subject, .string m.ident, v]
/-- the three texts are no longer than a text may be -/
def MailSz (m : Mail) : Prop := m.sender.size ≤ maxLen ∧ m.subject.size ≤ maxLen ∧ m.ident.size ≤ maxLen
theorem mf_word1 {m : Mail} (h : wordB m.sender.data.toList = false) : mailFault m = 5 := if_pos (.inl h)
theorem mf_word2 {m : Mail} (h : wordB m.subject.data.toList = false) : mailFault m = 5 := if_pos (.inr (.inl h))
theorem mf_word3 {m : Mail} (h : wordB m.ident.data.toList = false) : mailFault m = 5 := if_pos (.inr (.inr (.inl h)))
theorem mf_lt {m : Mail} (h : 60 ∈ m.ident.data.toList) : mailFault m = 5 := if_pos (.inr (.inr (.inr (.inl h))))
theorem mf_gt {m : Mail} (h : 62 ∈ m.ident.data.toList) : mailFault m = 5 := if_pos (.inr (.inr (.inr (.inr h))))
theorem mf_rest {m : Mail} (h1 : wordB m.sender.data.toList = true) (h2 : wordB m.subject.data.toList = true) (h3 : wordB m.ident.data.toList = true) (h4 : 60 ∉ m.ident.data.toList) (h5 : 62 ∉ m.ident.data.toList) : mailFault m = if 40000 < m.body.length then 3 else 0 := by
  unfold mailFault
  rw [if_neg (by rw [h1, h2, h3]; simp [h4, h5])]

set_option maxHeartbeats 2000000 in
set_option maxRecDepth 100000 in
theorem mail_check_any (m : Mail) (v : Value) (w : World) (h : Rdv w Never v m.body) (hsz : MailSz m) :
    Calls Tryz.prog 97 #[mailV m v] w fun e w' => e = .returned (errV (mailFault m)) ∧ Chg Never w w' := by
  obtain ⟨a, cap, rfl, h1, h2, _⟩ := rdv_slice h
  unfold maxLen at h2
  obtain ⟨z1, z2, z3⟩ := hsz
  obtain ⟨hA, b0, b1, b2, b3⟩ := box1_mail w 31 m.sender m.subject m.ident (.slice a m.body.length cap) _ rfl
  cases w1 : wordB m.sender.data.toList with
  | false =>
    have HF := Lib.hid (mf_word1 w1)
    go_enter Tryz.func97, Tryz.ntmps97
    go_wp2_with (first | (go_at_call 148; refine (mail_word_any _ _ (by assumption)).mono ?_; rintro e w' ⟨rfl, rfl⟩) | (go_at_call 149; refine (Tryz.strings_Contains_one _ _ _).mono ?_; rintro e w' ⟨rfl, rfl⟩))
    go_ret
    exact ⟨by rw [HF.out]; rfl, hA⟩
  | true =>
    cases w2 : wordB m.subject.data.toList with
    | false =>
      have HF := Lib.hid (mf_word2 w2)
      go_enter Tryz.func97, Tryz.ntmps97
      go_wp2_with (first | (go_at_call 148; refine (mail_word_any _ _ (by assumption)).mono ?_; rintro e w' ⟨rfl, rfl⟩) | (go_at_call 149; refine (Tryz.strings_Contains_one _ _ _).mono ?_; rintro e w' ⟨rfl, rfl⟩))
      go_ret
      exact ⟨by rw [HF.out]; rfl, hA⟩
    | true =>
      cases w3 : wordB m.ident.data.toList with
      | false =>
        have HF := Lib.hid (mf_word3 w3)
        go_enter Tryz.func97, Tryz.ntmps97
        go_wp2_with (first | (go_at_call 148; refine (mail_word_any _ _ (by assumption)).mono ?_; rintro e w' ⟨rfl, rfl⟩) | (go_at_call 149; refine (Tryz.strings_Contains_one _ _ _).mono ?_; rintro e w' ⟨rfl, rfl⟩))
        go_ret
        exact ⟨by rw [HF.out]; rfl, hA⟩
      | true =>
        by_cases c1 : 60 ∈ m.ident.data.toList
        · have t1 : decide (0 ≤ Lib.indexByte m.ident.data.toList 60) = true := by rw [indexByte_nonneg]; simpa using c1
          have HF := Lib.hid (mf_lt c1)
          clear c1
          go_enter Tryz.func97, Tryz.ntmps97
          go_wp2_with (first | (go_at_call 148; refine (mail_word_any _ _ (by assumption)).mono ?_; rintro e w' ⟨rfl, rfl⟩) | (go_at_call 149; refine (Tryz.strings_Contains_one _ _ _).mono ?_; rintro e w' ⟨rfl, rfl⟩))
          go_ret
          exact ⟨by rw [HF.out]; rfl, hA⟩
        · have t1 : decide (0 ≤ Lib.indexByte m.ident.data.toList 60) = false := by rw [indexByte_nonneg]; simpa using c1
          by_cases c2 : 62 ∈ m.ident.data.toList
          · have t2 : decide (0 ≤ Lib.indexByte m.ident.data.toList 62) = true := by rw [indexByte_nonneg]; simpa using c2
            have HF := Lib.hid (mf_gt c2)
            clear c1 c2
            go_enter Tryz.func97, Tryz.ntmps97
            go_wp2_with (first | (go_at_call 148; refine (mail_word_any _ _ (by assumption)).mono ?_; rintro e w' ⟨rfl, rfl⟩) | (go_at_call 149; refine (Tryz.strings_Contains_one _ _ _).mono ?_; rintro e w' ⟨rfl, rfl⟩))
            go_ret
            exact ⟨by rw [HF.out]; rfl, hA⟩
          · have t2 : decide (0 ≤ Lib.indexByte m.ident.data.toList 62) = false := by rw [indexByte_nonneg]; simpa using c2
            have HR := Lib.hid (mf_rest w1 w2 w3 c1 c2)
            clear c1 c2
            by_cases hb : 40000 < m.body.length
            · have HF : Hid (mailFault m = 3) := by rw [Hid, HR.out, if_pos hb]
              go_enter Tryz.func97, Tryz.ntmps97
              go_wp2_with (first | (go_at_call 148; refine (mail_word_any _ _ (by assumption)).mono ?_; rintro e w' ⟨rfl, rfl⟩) | (go_at_call 149; refine (Tryz.strings_Contains_one _ _ _).mono ?_; rintro e w' ⟨rfl, rfl⟩))
              go_ret
              exact ⟨by rw [HF.out]; rfl, hA⟩
            · have HF : Hid (mailFault m = 0) := by rw [Hid, HR.out, if_neg hb]
              go_enter Tryz.func97, Tryz.ntmps97
              go_wp2_with (first | (go_at_call 148; refine (mail_word_any _ _ (by assumption)).mono ?_; rintro e w' ⟨rfl, rfl⟩) | (go_at_call 149; refine (Tryz.strings_Contains_one _ _ _).mono ?_; rintro e w' ⟨rfl, rfl⟩))
              go_ret
              exact ⟨by rw [HF.out]; rfl, hA⟩
end Go.Proofs.YtjiaidchcldocaaGreatDoor
namespace Go.Proofs.YtjiaidchcldocaaGreatDoor
open Go.RowKit

/-- append of one element to a row of the call's own, in raw cells -/
theorem run_push_raw {P : Program} {n : Nat} (hn : 0 < n) {t ty e : TypeId} (hP : ElemOk P t e n) {w0 : World} {v : Value} {m : Nat} {xs es : List Value} (E' : TypeId)
    (hx : w0.ownsRow 0 e n v m xs) (hl : es.length = n) (h1 : ∀ u ∈ es, u.oneCell' = true) (hlen : m ≤ 1000000000) :
    ∃ v' w', (Builtin.append_ #[t, t] ty #[v, .slice (some ⟨w0.heap.size, 0, none⟩) 1 1]).run P (w0.alloc (.cells es.toArray E')) = .ok v' w' ∧ w'.ownsRow 0 e n v' (m + 1) (xs ++ es) ∧ Chg (OwnB v) w0 w' ∧ (∃ k, v'.ownBlock = some k ∧ (v.ownBlock = some k ∨ w0.heap.size ≤ k)) := by
  obtain ⟨i, z, hi, hz, hsz, hzs, hby⟩ := hP.info
  have hnl : es.length = 1 * n := by omega
  have hcells : ∀ j u, es[j]? = some u → (w0.alloc (.cells es.toArray E')).cell? ((⟨w0.heap.size, 0, none⟩ : Addr).add j) = some u := by
    intro j u hj
    have e1 : (⟨w0.heap.size, 0, none⟩ : Addr).add j = ⟨w0.heap.size, j, none⟩ := by unfold Addr.add; split <;> simp_all
    rw [e1, World.cell?, heap_alloc_new]
    simpa using hj
  have hx' := hx.alloc (.cells es.toArray E')
  have hbound : (m + 1) * i.bytes ≤ 140737488355328 := by
    have := Nat.mul_le_mul (show m + 1 ≤ 1000000001 by omega) hby
    omega
  obtain ⟨v', w', hrun, hown', hgrow, hnil⟩ := run_append_own (P := P) (w0.alloc (.cells es.toArray E')) 0 t ty e i z n i.bytes hP.ht hi hz hsz rfl hzs hn v m xs hx'
    ⟨w0.heap.size, 0, none⟩ 1 1 es hnl hcells h1 (by unfold maxLen; omega) hbound (Nat.zero_le _)
  obtain ⟨kb, hkb, hkb'⟩ := append_block (P := P) (w0.alloc (.cells es.toArray E')) 0 t ty e i z n i.bytes hP.ht hi hz hsz rfl v m xs hx'
    ⟨w0.heap.size, 0, none⟩ 1 1 es hnl hcells h1 (by unfold maxLen; omega) hbound (by omega) hrun
  have hkb2 : v.ownBlock = some kb ∨ w0.heap.size ≤ kb := by
    rcases hkb' with h | h
    · exact .inl h
    · right; rw [h]; simp
  exact ⟨v', w', hrun, hown', ((Chg.refl (OwnB v) w0).alloc _).trans' (Chg.of_grown hgrow) (fun k _ hk => hk), kb, hkb, hkb2⟩

structure OwnLast (e em : TypeId) (w : World) (O : Nat → Prop) (v : Value) (init : List Hunk) (h : Hunk) (mv : Value) (xs : List Value) : Prop where
  row : w.ownsRow 0 e 3 v (init.length + 1) xs
  out : ∀ k, v.ownBlock = some k → ¬ O k
  firsts : ∀ (i : Nat) (x : Hunk), init[i]? = some x → Dat.rd w (fun k => (O k ∨ v.ownBlock = some k) ∨ mv.ownBlock = some k) ((xs.drop (i * 3)).take 3) x
  last : xs.drop (init.length * 3) = [.int .i64 h.old, .int .i64 h.new, mv]
  marks : Own em w (fun k => O k ∨ v.ownBlock = some k) mv h.marks

/-- closed, it is a slice as any other -/
theorem OwnLast.own {e em : TypeId} {w : World} {O : Nat → Prop} {v : Value} {init : List Hunk} {h : Hunk} {mv : Value} {xs : List Value} (hl : OwnLast e em w O v init h mv xs) : Own e w O v (init ++ [h]) := by
  obtain ⟨h1, h2, h3, h4, h5⟩ := hl
  refine ⟨xs, by rw [List.length_append]; exact h1, h2, ?_⟩
  intro i x hx
  rcases Nat.lt_or_ge i init.length with hi | hi
  · rw [List.getElem?_append_left hi] at hx
    exact Dat.keep (h3 i x hx) (Chg.refl Never w) (fun _ _ h => h.elim) (fun k _ ho => .inl ho)
  · have hil : i = init.length := by
      have := (List.getElem?_eq_some_iff.1 hx).1
      simp at this
      omega
    subst hil
    simp at hx
    subst hx
    show Dat.rd w _ ((xs.drop (init.length * 3)).take 3) h
    rw [h4]
    exact ⟨mv, rfl, h5.rdv⟩

/-- its shape, and the place of the last one's marks -/
theorem OwnLast.shape {e em : TypeId} {w : World} {O : Nat → Prop} {v : Value} {init : List Hunk} {h : Hunk} {mv : Value} {xs : List Value} (hl : OwnLast e em w O v init h mv xs) :
    ∃ g cap, v = .slice (some ⟨g, 0, none⟩) (init.length + 1) cap ∧ g < w.heap.size ∧ ¬ O g ∧ init.length + 1 ≤ cap ∧ cap ≤ maxLen ∧ w.cell? ⟨g, init.length * 3 + 2, none⟩ = some mv ∧ w.cell? ⟨g, init.length * 3, none⟩ = some (.int .i64 h.old) ∧ w.cell? ⟨g, init.length * 3 + 1, none⟩ = some (.int .i64 h.new) ∧ ∀ j, w.frozen? ⟨g, j, none⟩ = false := by
  obtain ⟨h1, h2, h3, h4, h5⟩ := hl
  have h1' := h1
  rcases h1.2 with ⟨rfl, h0⟩ | ⟨g, cap, cur, rfl, hg, hh, hnc, hm, hcs, htake⟩
  · cases h0
  · have hc : ∀ j, j < 3 → w.cell? ⟨g, init.length * 3 + j, none⟩ = (xs.drop (init.length * 3))[j]? := by
      intro j hj
      rw [h1'.cellAt (init.length * 3 + j) (by omega), List.getElem?_drop]
    refine ⟨g, cap, rfl, (h1'.lt g rfl).2, h2 g rfl, hnc, hm, ?_, ?_, ?_, fun j => h1'.frozenAt j⟩
    · rw [hc 2 (by omega), h4]; rfl
    · rw [← Nat.add_zero (init.length * 3), hc 0 (by omega), h4]; rfl
    · rw [hc 1 (by omega), h4]; rfl

/-- a hunk more, without marks -/
theorem run_push_last {P : Program} {t ty e em : TypeId} (hP : ElemOk P t e 3) {w0 : World} {O : Nat → Prop} {v : Value} {l : List Hunk} {o n : Int} (E' : TypeId)
    (hown : Own e w0 O v l) (hO : ∀ k, O k → k < w0.heap.size) (hlen : l.length ≤ 1000000000) :
    ∃ v' w', (Builtin.append_ #[t, t] ty #[v, .slice (some ⟨w0.heap.size, 0, none⟩) 1 1]).run P (w0.alloc (.cells #[.int .i64 o, .int .i64 n, .slice none 0 0] E')) = .ok v' w' ∧ (∃ xs, OwnLast e em w' O v' l ⟨o, n, []⟩ (.slice none 0 0) xs) ∧ Chg (OwnB v) w0 w' := by
  obtain ⟨xs, hx, hb, hel⟩ := id hown
  obtain ⟨v', w', hrun, hrow, hc, kb, hkb, hkb2⟩ := run_push_raw (by decide) hP (ty := ty) (es := [.int .i64 o, .int .i64 n, .slice none 0 0]) E' hx rfl (by intro u hu; simp at hu; rcases hu with rfl | rfl | rfl <;> rfl) hlen
  have hxl : xs.length = l.length * 3 := hx.1
  have hout : ∀ k, v'.ownBlock = some k → ¬ O k := by
    intro k hk ho
    rw [hkb] at hk
    injection hk with hk
    subst hk
    rcases hkb2 with h | h
    · exact hb _ h ho
    · exact absurd (hO _ ho) (by omega)
  refine ⟨v', w', hrun, ⟨xs ++ [.int .i64 o, .int .i64 n, .slice none 0 0], hrow, hout, ?_, ?_, own_nil _ _ _⟩, hc⟩
  · intro i x hi
    have hil := (List.getElem?_eq_some_iff.1 hi).1
    have hr := hel i x hi
    have hle : i * 3 + 3 ≤ xs.length := by omega
    rw [List.drop_append_of_le_length (by omega), List.take_append_of_le_length (by rw [List.length_drop]; omega)]
    refine Dat.keep hr hc (fun k _ hk => .inr hk) ?_
    rintro k hk ((h | h) | h)
    · exact .inl h
    · rw [hkb] at h
      injection h with h
      subst h
      rcases hkb2 with h | h
      · exact .inr h
      · omega
    · cases h
  · rw [← hxl, List.drop_left]
theorem wpList_push_last {P : Program} {ops : Array Oper} {rest : List Oper} {o : Oper} {a : Act} {Q : Exit → Act → World → Prop} (hgd : o.guard = none) (s x : Operand) (t : TypeId)
    (ho : o.op = .call { callee := .builtin .append, args := #[s, x], argTypes := #[t, t] }) {e : TypeId} (em : TypeId) (hP : ElemOk P t e 3) {w0 : World} {O : Nat → Prop} {v : Value} {l : List Hunk} {old new : Int} {E' : TypeId} {B : Nat}
    (hs : a.eval s = v) (hx : a.eval x = .slice (some ⟨B, 0, none⟩) 1 1) (hB : B = w0.heap.size)
    (hown : Own e w0 O v l) (hO : ∀ k, O k → k < w0.heap.size) (hlen : l.length ≤ 1000000000)
    (h : ∀ v' w' xs, OwnLast e em w' O v' l ⟨old, new, []⟩ (.slice none 0 0) xs → Chg (OwnB v) w0 w' → wpList P ops Q rest (a.put o.dst v') w') :
    wpList P ops Q (o :: rest) a (w0.alloc (.cells #[.int .i64 old, .int .i64 new, .slice none 0 0] E')) := by
  subst hB
  refine wpList_plain hgd fun K hK => ?_
  obtain ⟨v', w', hrun, ⟨xs, h1⟩, h2⟩ := run_push_last (ty := o.type) (em := em) (o := old) (n := new) hP E' hown hO hlen
  unfold Oper.wp execOp
  simp only [ho, resolve, invoke, builtin, Sem.run_bind, Sem.run_pure, Result.andThen_ok, List.map_toArray, List.map_cons, List.map_nil, hs, hx, hrun]
  exact hK _ _ (h v' w' xs h1 h2)

/-- the last one's marks, grown by an append in w0 → w1, are stored back -/
theorem OwnLast.stored {e em : TypeId} {w0 w1 : World} {O : Nat → Prop} {g n cap : Nat} {init : List Hunk} {h : Hunk} {mv mv' : Value} {xs : List Value} {ms : List Mark}
    (hl : OwnLast e em w0 O (.slice (some ⟨g, 0, none⟩) n cap) init h mv xs)
    (hown : Own em w1 (fun k => O k ∨ (Value.slice (some ⟨g, 0, none⟩) n cap).ownBlock = some k) mv' ms) (hc : Chg (OwnB mv) w0 w1) (hk : ∃ k, mv'.ownBlock = some k ∧ (mv.ownBlock = some k ∨ w0.heap.size ≤ k)) :
    OwnLast e em (w1.setCell ⟨g, init.length * 3 + 2, none⟩ mv') O (.slice (some ⟨g, 0, none⟩) n cap) init ⟨h.old, h.new, ms⟩ mv' (xs.set (init.length * 3 + 2) mv') := by
  obtain ⟨h1, h2, h3, h4, h5⟩ := hl
  obtain ⟨kb, hkb, hkb2⟩ := hk
  have hn : n = init.length + 1 := by
    rcases h1.2 with ⟨h, _⟩ | ⟨g', cap', cur, h, _⟩
    · cases h
    · simp only [Value.slice.injEq] at h
      exact h.2.1
  subst hn
  have hg0 : g < w0.heap.size := (h1.lt g rfl).2
  have hgm : ¬ OwnB mv g := by
    obtain ⟨_, _, q, _⟩ := h5
    exact fun hh => q g hh (.inr rfl)
  have row1 : w1.ownsRow 0 e 3 (.slice (some ⟨g, 0, none⟩) (init.length + 1) cap) (init.length + 1) xs := by
    refine ⟨h1.1, ?_⟩
    rcases h1.2 with h | ⟨g', cap', cur, hv, r1, r2, r3⟩
    · exact .inl h
    · simp only [Value.slice.injEq, Option.some.injEq, Addr.mk.injEq, and_true, true_and] at hv
      obtain ⟨rfl, rfl⟩ := hv
      exact .inr ⟨g, cap, cur, rfl, r1, (hc.block g hg0 hgm).trans r2, r3⟩
  have hst := (row1.stored (init.length * 3 + 2) mv').1
  have hc2 : Chg (fun k => k = g) w1 (w1.setCell ⟨g, init.length * 3 + 2, none⟩ mv') := (Chg.refl (fun k => k = g) w1).setCell (p := ⟨g, init.length * 3 + 2, none⟩) (.inr rfl) mv'
  have hxl : xs.length = (init.length + 1) * 3 := h1.1
  refine ⟨hst, h2, ?_, ?_, ?_⟩
  · intro i x hi
    have hil := (List.getElem?_eq_some_iff.1 hi).1
    have hr := h3 i x hi
    have e1 : ((xs.set (init.length * 3 + 2) mv').drop (i * 3)).take 3 = (xs.drop (i * 3)).take 3 := by
      apply List.ext_getElem?
      intro j
      rw [List.getElem?_take, List.getElem?_take]
      by_cases hj : j < 3
      · rw [if_pos hj, if_pos hj, List.getElem?_drop, List.getElem?_drop, List.getElem?_set_ne (by omega)]
      · rw [if_neg hj, if_neg hj]
    rw [e1]
    refine Dat.keep (Dat.keep hr hc (O'' := fun k => (O k ∨ (Value.slice (some ⟨g, 0, none⟩) (init.length + 1) cap).ownBlock = some k) ∨ mv'.ownBlock = some k) (fun k _ hk => .inr hk) ?_) hc2 ?_ (fun k _ h => h)
    · rintro k hk (h | h)
      · exact .inl h
      · rw [hkb] at h
        injection h with h
        subst h
        rcases hkb2 with h | h
        · exact .inr h
        · omega
    · rintro k _ rfl
      exact .inl (.inr rfl)
  · apply List.ext_getElem?
    intro j
    have h4j : xs[init.length * 3 + j]? = [Value.int .i64 h.old, .int .i64 h.new, mv][j]? := by rw [← List.getElem?_drop, h4]
    rw [List.getElem?_drop]
    match j with
    | 0 => rw [List.getElem?_set_ne (by omega), h4j]; rfl
    | 1 => rw [List.getElem?_set_ne (by omega), h4j]; rfl
    | 2 => rw [List.getElem?_set_self (by omega)]; rfl
    | j + 3 => rw [List.getElem?_set_ne (by omega), h4j]; rfl
  · refine hown.keep hc2 ?_ (fun k _ h => h)
    rintro k _ rfl
    exact .inr rfl

theorem OwnLast.keep {e em : TypeId} {w w' : World} {O : Nat → Prop} {v : Value} {init : List Hunk} {h : Hunk} {mv : Value} {xs : List Value} (hl : OwnLast e em w O v init h mv xs) (hc : Chg Never w w') : OwnLast e em w' O v init h mv xs := by
  obtain ⟨h1, h2, h3, h4, h5⟩ := hl
  refine ⟨⟨h1.1, ?_⟩, h2, fun i x hi => Dat.never (h3 i x hi) hc, h4, h5.never hc⟩
  rcases h1.2 with h | ⟨g', cap', cur, hv, r1, r2, r3⟩
  · exact .inl h
  · subst hv
    exact .inr ⟨g', cap', cur, rfl, r1, (hc.block g' (h1.lt g' rfl).2 (fun x => x)).trans r2, r3⟩
end Go.Proofs.YtjiaidchcldocaaGreatDoor
namespace Go.Proofs.YtjiaidchcldocaaGreatDoor
open Go.RowKit

theorem OwnLast.keepO {e em : TypeId} {w w' : World} {O O' O'' : Nat → Prop} {v : Value} {init : List Hunk} {h : Hunk} {mv : Value} {xs : List Value} (hl : OwnLast e em w O v init h mv xs) (hc : Chg O' w w')
    (k1 : ∀ k, k < w.heap.size → O' k → O k) (k2 : ∀ k, k < w.heap.size → O'' k → O k) : OwnLast e em w' O'' v init h mv xs := by
  obtain ⟨h1, h2, h3, h4, h5⟩ := hl
  have hlt := fun k hk => (h1.lt k hk).2
  refine ⟨⟨h1.1, ?_⟩, fun k hk ho => h2 k hk (k2 k (hlt k hk) ho), fun i x hi => ?_, h4, ?_⟩
  · rcases h1.2 with h | ⟨g', cap', cur, hv, r1, r2, r3⟩
    · exact .inl h
    · subst hv
      exact .inr ⟨g', cap', cur, rfl, r1, (hc.block g' (hlt g' rfl) (fun ho => h2 g' rfl (k1 g' (hlt g' rfl) ho))).trans r2, r3⟩
  · refine Dat.keep (h3 i x hi) hc (fun k hk ho => .inl (.inl (k1 k hk ho))) ?_
    rintro k hk ((ho | ho) | ho)
    · exact .inl (.inl (k2 k hk ho))
    · exact .inl (.inr ho)
    · exact .inr ho
  · refine h5.keep hc (fun k hk ho => .inl (k1 k hk ho)) ?_
    rintro k hk (ho | ho)
    · exact .inl (k2 k hk ho)
    · exact .inr ho

/-- the blocks that a reader's rows avoid: what was there before, and its own box -/
def RdO (W0 B : Nat) : Nat → Prop := fun k => k < W0 ∨ k = B
/-- the blocks that a reader may change: its own box, and what is made from W0 on -/
def RdC (W0 B : Nat) : Nat → Prop := fun k => k = B ∨ W0 ≤ k
structure RdrAt (w : World) (W0 B : Nat) (v : Value) (hs : List Hunk) (o n : Nat) : Prop where
  base : W0 ≤ w.heap.size
  box : Blk3 w B 205 v (.int .i64 o) (.int .i64 n)
  rows : (hs = [] ∧ v = .slice none 0 0) ∨ ∃ init h mv xs, hs = init ++ [h] ∧ OwnLast 129 126 w (RdO W0 B) v init h mv xs
theorem RdrAt.own {w : World} {W0 B : Nat} {v : Value} {hs : List Hunk} {o n : Nat} (h : RdrAt w W0 B v hs o n) : Own 129 w (RdO W0 B) v hs := by
  rcases h.rows with ⟨rfl, rfl⟩ | ⟨init, x, mv, xs, rfl, hl⟩
  · exact own_nil _ _ _
  · exact hl.own
theorem RdrAt.keep {w w' : World} {W0 B : Nat} {v : Value} {hs : List Hunk} {o n : Nat} (h : RdrAt w W0 B v hs o n) (hc : Chg Never w w') : RdrAt w' W0 B v hs o n := by
  refine ⟨Nat.le_trans h.base hc.size, h.box.keep hc (fun x => x), ?_⟩
  rcases h.rows with q | ⟨init, x, mv, xs, e, hl⟩
  · exact .inl q
  · exact .inr ⟨init, x, mv, xs, e, hl.keep hc⟩
theorem RdrAt.new (w : World) : RdrAt (w.alloc (.cells #[.slice none 0 0, .int .i64 0, .int .i64 0] 205)) w.heap.size w.heap.size (.slice none 0 0) [] 0 0 :=
  ⟨Nat.le_of_lt (by simp), Blk3.new w _ _ _ _, .inl ⟨rfl, rfl⟩⟩
theorem RdrAt.start {w : World} {W0 B : Nat} (h : Blk3 w B 205 (.slice none 0 0) (.int .i64 (0 : Nat)) (.int .i64 (0 : Nat))) (hw : W0 ≤ w.heap.size) : RdrAt w W0 B (.slice none 0 0) [] 0 0 := ⟨hw, h, .inl ⟨rfl, rfl⟩⟩
/-- the box's cells may be written -/
theorem RdrAt.set {w w' : World} {W0 B : Nat} {v : Value} {hs : List Hunk} {o n o' n' : Nat} (h : RdrAt w W0 B v hs o n) (hb : Blk3 w' B 205 v (.int .i64 o') (.int .i64 n')) (hc : Chg (fun k => k = B) w w') : RdrAt w' W0 B v hs o' n' := by
  refine ⟨Nat.le_trans h.base hc.size, hb, ?_⟩
  rcases h.rows with q | ⟨init, x, mv, xs, e, hl⟩
  · exact .inl q
  · exact .inr ⟨init, x, mv, xs, e, hl.keepO hc (fun _ _ hk => .inr hk) (fun _ _ hk => hk)⟩
theorem RdrAt.nil {w : World} {W0 B : Nat} {v : Value} {o n : Nat} (h : RdrAt w W0 B v [] o n) : v = .slice none 0 0 := by
  rcases h.rows with ⟨_, q⟩ | ⟨init, x, mv, xs, e, hl⟩
  · exact q
  · simp at e
theorem RdrAt.lt {w : World} {W0 B : Nat} {v : Value} {hs : List Hunk} {o n : Nat} (h : RdrAt w W0 B v hs o n) : B < w.heap.size := h.box.lt
/-- read, it is as any other slice -/
theorem RdrAt.rdv {w : World} {W0 B : Nat} {v : Value} {hs : List Hunk} {o n : Nat} (h : RdrAt w W0 B v hs o n) : Rdv w (RdO W0 B) v hs := h.own.rdv
end Go.Proofs.YtjiaidchcldocaaGreatDoor
namespace Go.Proofs.YtjiaidchcldocaaGreatDoor
open Go.RowKit

theorem box3' {w w1 : World} {x y z x' y' z' : Value} {t t' : TypeId} (hc : Chg Never ((w.alloc (.cells #[x, y, z] t)).alloc (.cells #[x', y', z'] t')) w1) :
    (w1.cell? ⟨w.heap.size, 0, none⟩ = some x ∧ w1.cell? ⟨w.heap.size, 1, none⟩ = some y ∧ w1.cell? ⟨w.heap.size, 2, none⟩ = some z) ∧
    (w1.cell? ⟨w.heap.size + 1, 0, none⟩ = some x' ∧ w1.cell? ⟨w.heap.size + 1, 1, none⟩ = some y' ∧ w1.cell? ⟨w.heap.size + 1, 2, none⟩ = some z') := by
  have h1 := box3 (((Chg.refl Never _).alloc (.cells #[x', y', z'] t')).trans hc)
  have h2 := box3 hc
  simp only [World.size_alloc] at h2
  exact ⟨h1, h2⟩


theorem hunk_eq_any (h k : Hunk) (hv kv : Value) (w : World) (hh : Rdv w Never hv h.marks) (hk : Rdv w Never kv k.marks) :
    Calls Tryz.prog 112 #[.agg #[.int .i64 h.old, .int .i64 h.new, hv], .agg #[.int .i64 k.old, .int .i64 k.new, kv]] w fun e w' => e = .returned (.bool (decide (h = k))) ∧ Chg Never w w' := by
  obtain ⟨a, cap, rfl, _, _, _⟩ := rdv_slice hh
  obtain ⟨b, cap', rfl, _, _, _⟩ := rdv_slice hk
  have E : decide (h = k) = (decide (h.marks = k.marks) && h.old == k.old && h.new == k.new) := by
    obtain ⟨ho, hn, hm⟩ := h
    obtain ⟨ko, kn, km⟩ := k
    by_cases h1 : ho = ko <;> by_cases h2 : hn = kn <;> by_cases h3 : hm = km <;> simp [h1, h2, h3]
  rw [E]
  clear E
  by_cases hm : h.marks = k.marks
  · rw [decide_eq_true hm]
    have HM := Lib.hid (decide_eq_true hm)
    clear hm
    by_cases ho : h.old = k.old
    · have t1 : (h.old == k.old) = true := by simp [ho]
      rw [t1]
      clear ho
      go_enter Tryz.func112, Tryz.ntmps112
      go_wp2_with fail
      refine (marks_any h.marks k.marks _ _ _ (hh.never (((Chg.refl _ _).alloc _).alloc _)) (hk.never (((Chg.refl _ _).alloc _).alloc _))).mono ?_
      rintro e w1 ⟨rfl, hc1⟩
      obtain ⟨⟨x0, x1, x2⟩, ⟨y0, y1, y2⟩⟩ := box3' hc1
      have hw : Chg Never w w1 := (((Chg.refl _ _).alloc _).alloc _).trans hc1
      clear hc1
      rw [HM.out]
      go_wp2_with fail
      go_ret
      exact ⟨rfl, hw⟩
    · have t1 : (h.old == k.old) = false := by simp [ho]
      rw [t1]
      clear ho
      go_enter Tryz.func112, Tryz.ntmps112
      go_wp2_with fail
      refine (marks_any h.marks k.marks _ _ _ (hh.never (((Chg.refl _ _).alloc _).alloc _)) (hk.never (((Chg.refl _ _).alloc _).alloc _))).mono ?_
      rintro e w1 ⟨rfl, hc1⟩
      obtain ⟨⟨x0, x1, x2⟩, ⟨y0, y1, y2⟩⟩ := box3' hc1
      have hw : Chg Never w w1 := (((Chg.refl _ _).alloc _).alloc _).trans hc1
      clear hc1
      rw [HM.out]
      go_wp2_with fail
      go_ret
      exact ⟨rfl, hw⟩
  · rw [decide_eq_false hm]
    have HM := Lib.hid (decide_eq_false hm)
    clear hm
    go_enter Tryz.func112, Tryz.ntmps112
    go_wp2_with fail
    refine (marks_any h.marks k.marks _ _ _ (hh.never (((Chg.refl _ _).alloc _).alloc _)) (hk.never (((Chg.refl _ _).alloc _).alloc _))).mono ?_
    rintro e w1 ⟨rfl, hc1⟩
    obtain ⟨⟨x0, x1, x2⟩, ⟨y0, y1, y2⟩⟩ := box3' hc1
    have hw : Chg Never w w1 := (((Chg.refl _ _).alloc _).alloc _).trans hc1
    clear hc1
    rw [HM.out]
    go_wp2_with fail
    go_ret
    exact ⟨rfl, hw⟩

set_option maxRecDepth 100000 in
theorem hunks_eq_any (l m : List Hunk) (v u : Value) (w : World) (h : Rdv w Never v l) (g : Rdv w Never u m) :
    Calls Tryz.prog 69 #[v, u] w fun e w' => e = .returned (.bool (decide (l = m))) ∧ Chg Never w w' := by
  obtain ⟨a, cap, rfl, h1, h2, h3⟩ := rdv_slice h
  obtain ⟨c, cap', rfl, g1, g2, g3⟩ := rdv_slice g
  unfold maxLen at h2 g2
  by_cases h4 : l.length = m.length
  · have h4' : ((l.length : Int) != m.length) = false := by simp [h4]
    have H4 := Lib.hid h4
    clear h4
    go_enter Tryz.func69, Tryz.ntmps69
    go_wp2
    go_loopw [5] (fun i wr => ∃ k : Nat, k ≤ l.length ∧ i = .int .i64 k ∧ Hid (l.take k = m.take k) ∧ Chg Never w wr) (fun i _ => l.length - (intOf i).toNat)
    case atStart => exact ⟨0, Nat.zero_le _, rfl, by simp [Hid], Chg.refl _ _⟩
    case round =>
      obtain ⟨k, hk, rfl, hf, hc⟩ := hrel
      by_cases hlt : k < l.length
      · obtain ⟨x, hx⟩ : ∃ x, l[k]? = some x := ⟨l[k], by simp [hlt]⟩
        obtain ⟨y, hy⟩ : ∃ y, m[k]? = some y := ⟨m[k]'(by rw [← H4.out]; exact hlt), by simp [H4.out ▸ hlt]⟩
        obtain ⟨b, off, mv, rfl, _, _, c0, c1, c2, hmv⟩ := elems_hunk h3 hx
        obtain ⟨b', off', mv', rfl, _, _, d0, d1, d2, hmv'⟩ := elems_hunk g3 hy
        have c0 := hc.cellNever c0
        have c1 := hc.cellNever c1
        have c2 := hc.cellNever c2
        have d0 := hc.cellNever d0
        have d1 := hc.cellNever d1
        have d2 := hc.cellNever d2
        have hmv := hmv.never hc
        have hmv' := hmv'.never hc
        clear h3 g3 h g
        have hlm : k < m.length := by rw [← H4.out]; exact hlt
        have HX := Lib.hid hx
        have HY := Lib.hid hy
        clear hx hy
        have b1 : (k : Int) < l.length := by omega
        have b2 : (k : Int) < m.length := by omega
        go_wp2_with fail
        refine wp_region_still_tail 8 (by kernel_rfl) (by kernel_rfl) ?_
        simp only [List.take_succ_cons, List.take_zero, List.drop_succ_cons, List.drop_zero]
        change wpStill _ _ wr.drew _ _ _
        repeat still_step
        refine wpStill_nil ?_
        change wpList _ _ _ _ _ wr.drew
        have hcd : Chg Never w wr.drew := hc.drew
        have hmd := hmv.never ((Chg.refl Never wr).drew)
        have hmd' := hmv'.never ((Chg.refl Never wr).drew)
        generalize wr.drew = w3 at hcd hmd hmd'
        go_wp2_with fail
        refine (hunk_eq_any x y _ _ _ hmd hmd').mono ?_
        rintro e w4 ⟨rfl, hc4⟩
        have hc5 := hcd.trans hc4
        by_cases hxy : x = y
        · subst hxy
          rw [decide_eq_true rfl]
          go_wp2_with fail
          go_roundw
          case rel => exact ⟨k + 1, by omega, by go_num, take_same hf HX.out HY.out, hc5⟩
          case measure => simp [intOf] <;> omega
        · rw [decide_eq_false hxy]
          go_wp2_with fail
          go_ret
          exact ⟨by rw [decide_eq_false (ne_of_get HX.out HY.out hxy)]; rfl, hc5⟩
      · go_wp2
        go_ret
        have E : l = m := by
          have := hf.out
          rwa [List.take_of_length_le (by omega), List.take_of_length_le (by rw [← H4.out]; omega)] at this
        exact ⟨by rw [decide_eq_true E]; rfl, hc⟩
  · have h4' : ((l.length : Int) != m.length) = true := by simp; omega
    go_enter Tryz.func69, Tryz.ntmps69
    go_wp2
    go_ret
    exact ⟨by rw [decide_eq_false (fun e => h4 (by rw [e]))]; rfl, Chg.refl _ _⟩
end Go.Proofs.YtjiaidchcldocaaGreatDoor
namespace Go.Proofs.YtjiaidchcldocaaGreatDoor
open Go.RowKit

/-- which marks are near one of the first i -/
def nearTo (s : List Mark) (n : Int) (i k : Nat) : Bool :=
  (List.range i).any fun j => (s[j]?.any isChange) && decide ((k : Int) ≤ j + n) && decide ((j : Int) ≤ k + n) && (k == j || (s[k]?.any fun m => m.sign == 32))
def BoolRow (B : Nat) (wr : World) (len : Nat) (f : Nat → Bool) : Prop :=
  ∃ c : Array Value, wr.heap[B]? = some (.cells c 4 (0, 0)) ∧ c.size = len ∧ ∀ k, k < len → c[k]? = some (.bool (f k))

theorem BoolRow.cell {B : Nat} {wr : World} {len : Nat} {f : Nat → Bool} (h : BoolRow B wr len f) {k : Nat} (hk : k < len) : wr.cell? ⟨B, k, none⟩ = some (.bool (f k)) := by
  obtain ⟨c, h1, h2, h3⟩ := h
  simp only [World.cell?, h1]
  exact h3 k hk
theorem BoolRow.free {B : Nat} {wr : World} {len : Nat} {f : Nat → Bool} (h : BoolRow B wr len f) (k : Nat) : wr.frozen? ⟨B, k, none⟩ = false := by
  obtain ⟨c, h1, h2, h3⟩ := h
  simp [World.frozen?, h1]
theorem BoolRow.keep {B : Nat} {wr w' : World} {len : Nat} {f : Nat → Bool} {O : Nat → Prop} (h : BoolRow B wr len f) (hc : Chg O wr w') (hB : ¬ O B) : BoolRow B w' len f := by
  obtain ⟨c, h1, h2⟩ := h
  refine ⟨c, ?_, h2⟩
  rw [hc.block B (Array.getElem?_eq_some_iff.1 h1).1 hB]
  exact h1
theorem BoolRow.set {B : Nat} {wr : World} {len : Nat} {f : Nat → Bool} (h : BoolRow B wr len f) {k : Nat} (hk : k < len) (b : Bool) {g : Nat → Bool} (hg : ∀ j, j < len → g j = if j = k then b else f j) :
    BoolRow B (wr.setCell ⟨B, k, none⟩ (.bool b)) len g := by
  obtain ⟨c, h1, h2, h3⟩ := h
  refine ⟨c.setIfInBounds k (.bool b), ?_, by simpa using h2, ?_⟩
  · simp [World.setCell, Array.getElem?_modify, h1]
  · intro j hj
    rw [Array.getElem?_setIfInBounds, hg j hj]
    by_cases e : j = k
    · subst e; simp [h2, hj]
    · rw [if_neg (fun h => e h.symm), if_neg e]; exact h3 j hj

def keptAt (s : List Mark) (k : Nat) : Bool := s[k]?.any fun m => m.sign == 32
def inWin (n : Int) (i k : Nat) : Bool := decide ((k : Int) ≤ i + n) && decide ((i : Int) ≤ k + n)
theorem nearTo_succ {s : List Mark} {n : Int} {i k : Nat} {x : Mark} (hx : s[i]? = some x) :
    nearTo s n (i + 1) k = (nearTo s n i k || (isChange x && inWin n i k && (k == i || keptAt s k))) := by
  unfold nearTo inWin keptAt
  rw [List.range_succ, List.any_append]
  simp [hx, Bool.and_assoc]
theorem nearTo_kept {s : List Mark} {n : Int} {i : Nat} {x : Mark} (hx : s[i]? = some x) (h : x.sign = 32) : nearTo s n i = nearTo s n (i + 1) := by
  funext k
  rw [nearTo_succ hx]
  simp [isChange, h]
/-- the row in the midst of mark i: done from lo to c -/
def midRow (s : List Mark) (n : Int) (i : Nat) (c : Int) (k : Nat) : Bool := if (k : Int) < c then nearTo s n (i + 1) k else nearTo s n i k
theorem midRow_start {s : List Mark} {n : Int} {i : Nat} {x : Mark} (hx : s[i]? = some x) (_hn : 0 ≤ n) (k : Nat) : midRow s n i (max 0 ((i : Int) - n)) k = nearTo s n i k := by
  unfold midRow
  split
  · rw [nearTo_succ hx]
    have : inWin n i k = false := by
      unfold inWin
      rename_i h
      have : decide ((i : Int) ≤ k + n) = false := by simp; omega
      simp [this]
    simp [this]
  · rfl
theorem midRow_end {s : List Mark} {n : Int} {i : Nat} {x : Mark} {c : Int} (hx : s[i]? = some x) (hc : min ((s.length : Int) - 1) (i + n) < c) {k : Nat} (hk : k < s.length) : midRow s n i c k = nearTo s n (i + 1) k := by
  unfold midRow
  split
  · rfl
  · rw [nearTo_succ hx]
    have : inWin n i k = false := by
      unfold inWin
      rename_i h
      have : decide ((k : Int) ≤ i + n) = false := by simp; omega
      simp [this]
    simp [this]
theorem midRow_step {s : List Mark} {n : Int} {i c : Nat} (j : Nat) : midRow s n i ((c : Int) + 1) j = if j = c then nearTo s n (i + 1) c else midRow s n i c j := by
  unfold midRow
  by_cases h : j = c
  · subst h; simp; omega
  · rw [if_neg h]
    by_cases h1 : (j : Int) < c
    · rw [if_pos h1, if_pos (by omega)]
    · rw [if_neg h1, if_neg (by omega)]
theorem nearTo_inAt {s : List Mark} {n : Int} (hn : 0 ≤ n) {k : Nat} (hk : k < s.length) : nearTo s n s.length k = inAt s n k := by
  rw [Bool.eq_iff_iff]
  unfold nearTo inAt
  rw [List.any_eq_true, List.any_eq_true]
  have hsk : s[k]? = some s[k] := by simp [hk]
  constructor
  · rintro ⟨j, hj, hp⟩
    rw [Bool.and_eq_true] at hp
    exact ⟨j, hj, hp.1⟩
  · rintro ⟨j, hj, hp⟩
    by_cases hc : (s[k]).sign = 32
    · refine ⟨j, hj, ?_⟩
      rw [Bool.and_eq_true]
      exact ⟨hp, by simp [hsk, hc]⟩
    · refine ⟨k, List.mem_range.2 hk, ?_⟩
      simp [hsk, isChange, hc]
      omega

theorem boolRow_made {w1 : World} {B len : Nat} (h : w1.ownsRow 0 4 1 (.slice (some ⟨B, 0, none⟩) len len) len (madeCells (Value.bool false).cells (len * 1)).toList) : BoolRow B w1 len fun _ => false := by
  obtain ⟨_, hx⟩ := h
  rcases hx with ⟨h, _⟩ | ⟨g, cap, cur, hv, _, hh, hn, hm, hcs, htake⟩
  · cases h
  · injection hv with hv1 _ hv3
    injection hv1 with hv1
    injection hv1 with hv1
    subst hv1 hv3
    refine ⟨cur, hh, by simpa using hcs, ?_⟩
    intro k hk
    have e : cur.toList[k]? = (cur.toList.take (len * 1))[k]? := by rw [List.getElem?_take, if_pos (by omega)]
    rw [← Array.getElem?_toList, e, htake]
    simp [madeCells, Value.cells, hk, Nat.mod_one]

set_option maxHeartbeats 800000 in
theorem near_any (s : List Mark) (n : Int) (v : Value) (w : World) (h : Rdv w Never v s) (hl : s.length ≤ 120) (hn : 0 ≤ n) (hn' : n ≤ 1000) :
    Calls Tryz.prog 200 #[v, .int .i64 n] w fun e w' => e = .returned (.slice (some ⟨w.heap.size, 0, none⟩) s.length s.length) ∧ Chg Never w w' ∧ BoolRow w.heap.size w' s.length (inAt s n) := by
  obtain ⟨a, cap, rfl, h1, h2, h3⟩ := rdv_slice h
  unfold maxLen at h2
  obtain ⟨ib, ib1, ib2, ib3, ib4⟩ := info_parts (show (Tryz.prog.info? 4).map (fun i => (i.zero, i.size, i.bytes)) = some (some (.bool false), 1, 1) by kernel_rfl)
  go_enter Tryz.func200, Tryz.ntmps200
  go_wp2_with (at_make; refine wpList_make_full _ rfl _ _ 290 rfl 0 4 ib (.bool false) 1 Tryz.underlying290 ib1 ib2 ib3 .i64 .i64 _ _ s.length rfl rfl rfl rfl (by rw [ib4]; omega) (by unfold maxLen; omega) (Nat.zero_le _) ?_; intro w1 hown hgrow)
  have hB := boolRow_made hown
  have hc := (Chg.refl Never w).trans' (Chg.of_grown hgrow) (fun _ _ h => by cases h)
  clear hown hgrow
  go_loopw [8, 14] (fun _ i wr => ∃ k : Nat, k ≤ s.length ∧ i = .int .i64 k ∧ Chg Never w wr ∧ BoolRow w.heap.size wr s.length (nearTo s n k)) (fun _ i _ => s.length - (intOf i).toNat)
  case atStart => exact ⟨0, Nat.zero_le _, rfl, hc, hB⟩
  case round =>
    clear hB hc
    obtain ⟨i, hi, rfl, hc, hB⟩ := hrel
    by_cases hlt : i < s.length
    · obtain ⟨x, hx⟩ : ∃ x, s[i]? = some x := ⟨s[i], by simp [hlt]⟩
      obtain ⟨b, off, rfl, _, _, c0, c1, s0, s1, hxs⟩ := elems_mark h3 hx
      have c0 := hc.cellNever c0
      have c1 := hc.cellNever c1
      have HX := Lib.hid hx
      have hB1 := hB.keep ((Chg.refl Never wr).alloc (.cells #[.int .u8 x.sign, .string x.text] 126)) (fun h => h)
      clear hx
      obtain ⟨sg, tx⟩ := x
      simp only at c0 c1 s0 s1 hxs hB1
      by_cases h32 : sg = 32
      · subst h32
        go_wp2_with (go_at_call 182; refine (changed_any _ _ _).mono ?_; rintro e w2 ⟨rfl, hc2⟩)
        have hB2 := hB1.keep hc2 (fun h => h)
        have hc3 := (hc.alloc _).trans hc2
        go_roundw
        case rel => exact ⟨i + 1, by omega, by go_num, hc3, nearTo_kept HX.out rfl ▸ hB2⟩
        case measure => simp [intOf] <;> omega
      · have t1 : (sg == 32) = false := by simp [h32]
        go_wp2_with (go_at_call 182; refine (changed_any _ _ _).mono ?_; rintro e w2 ⟨rfl, hc2⟩)
        have hB2 := hB1.keep hc2 (fun h => h)
        have hc3 := (hc.alloc _).trans hc2
        have c0' := hc3
        clear hB hB1 hc2 hc
        go_loopw [8] (fun s8 wr' => ∃ c : Int, s8 = .int .i64 c ∧ max 0 ((i : Int) - n) ≤ c ∧ c ≤ max (max 0 ((i : Int) - n)) (min ((s.length : Int) - 1) (i + n) + 1) ∧ Chg Never w wr' ∧ BoolRow w.heap.size wr' s.length (midRow s n i c)) (fun s8 _ => (s.length + 1 - intOf s8).toNat)
        case atStart => exact ⟨_, rfl, Int.le_refl _, by omega, hc3, by have e : midRow s n i (max 0 ((i : Int) - n)) = nearTo s n i := funext (midRow_start HX.out hn); rw [e]; exact hB2⟩
        case round =>
          clear hB2 hc3
          obtain ⟨c, rfl, hlo, hhi, hc, hB⟩ := hrel
          by_cases hcc : c ≤ min ((s.length : Int) - 1) (i + n)
          · obtain ⟨j, rfl⟩ := Int.eq_ofNat_of_zero_le (show 0 ≤ c by omega)
            have hjl : j < s.length := by omega
            have hwin : inWin n i j = true := by unfold inWin; simp; omega
            obtain ⟨y, hy⟩ : ∃ y, s[j]? = some y := ⟨s[j], by simp [hjl]⟩
            obtain ⟨b', off', he, _, _, e0, e1, u0, u1, _⟩ := elems_mark h3 hy
            simp only [Option.some.injEq, Addr.mk.injEq, and_true] at he
            obtain ⟨rfl, rfl⟩ := he
            have e0 := hc.cellNever e0
            have e1 := hc.cellNever e1
            have hnew := nearTo_succ (n := n) (k := j) HX.out
            have hkept : keptAt s j = (y.sign == 32) := by unfold keptAt; rw [hy]; rfl
            rw [hwin, hkept] at hnew
            have d0 := hB.cell hjl
            have d1 := hB.free j
            have hmid : midRow s n i j j = nearTo s n i j := by unfold midRow; simp
            rw [hmid] at d0
            obtain ⟨ys, yt⟩ := y
            simp only at e0 e1 hnew
            have HY := Lib.hid hnew
            have b1 : (j : Int) < s.length := by omega
            clear hnew hkept hmid hy hwin
            cases hnr : nearTo s n i j with
            | true =>
              rw [hnr] at d0
              have HN := Lib.hid hnr
              clear hnr
              go_wp2_with fail
              go_roundw
              case rel => exact ⟨(j : Int) + 1, rfl, by omega, by omega, hc.setCell (.inl (Nat.le_refl _)) _, hB.set hjl _ (fun k hk => by rw [midRow_step, HY.out, HN.out]; simp)⟩
              case measure => simp [intOf] <;> omega
            | false =>
              rw [hnr] at d0
              have HN := Lib.hid hnr
              clear hnr
              by_cases hji : j = i
              · have t2 : ((j : Int) == i) = true := by simp [hji]
                have HJ := Lib.hid hji
                clear hji
                go_wp2_with fail
                go_roundw
                case rel => exact ⟨(j : Int) + 1, rfl, by omega, by omega, hc.setCell (.inl (Nat.le_refl _)) _, hB.set hjl _ (fun k hk => by rw [midRow_step, HY.out, HN.out]; simp [isChange, t1, HJ.out])⟩
                case measure => simp [intOf] <;> omega
              · have t2 : ((j : Int) == i) = false := by simp; omega
                go_wp2_with fail
                refine (kept_any _ _ _).mono ?_
                rintro e w5 ⟨rfl, hc5⟩
                have hB5 := hB.keep hc5 (fun h => h)
                have hc6 := hc.trans hc5
                have d1 := hB5.free j
                have d0 := hB5.cell hjl
                clear hB hc5 hc
                go_wp2_with fail
                go_roundw
                case rel => exact ⟨(j : Int) + 1, rfl, by omega, by omega, hc6.setCell (.inl (Nat.le_refl _)) _, hB5.set hjl _ (fun k hk => by rw [midRow_step, HY.out, HN.out]; simp [isChange, t1, beq_eq_false_iff_ne.2 hji])⟩
                case measure => simp [intOf] <;> omega
          · go_wp2_with fail
            go_roundw
            case rel => exact ⟨i + 1, by omega, by go_num, hc, by
              obtain ⟨cc, q1, q2, q3⟩ := hB
              exact ⟨cc, q1, q2, fun k hk => by rw [q3 k hk, midRow_end HX.out (by omega) hk]⟩⟩
            case measure => simp [intOf] <;> omega
    · go_wp2_with fail
      go_ret
      obtain rfl : i = s.length := by omega
      refine ⟨rfl, hc, ?_⟩
      obtain ⟨c, q1, q2, q3⟩ := hB
      exact ⟨c, q1, q2, fun k hk => by rw [q3 k hk, nearTo_inAt hn hk]⟩
end Go.Proofs.YtjiaidchcldocaaGreatDoor
