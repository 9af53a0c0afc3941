/-
  PARTS: THE WALK of the document's StrictOf.; append OF A WHOLE SLICE whose elements lie in blocks of their own, to one of the call's own. No program in sight.; THE WALKS of the document's DropOf, PutOf.; THE WALK of patch.done: what a change does to what a path reads.; MORE ON ROWS THAT append HAS BUILT, whose elements lie elsewhere.
-/
import Derived.Test.YteocmmejfnmjcaaGreatDoorPackPi8
import Derived.Deep.RegionHeld3
import Derived.Test.YteocmmejfnmjcaaGreatDoorPackPi4
import Derived.Test.YteocmmejfnmjcaaGreatDoorPackPi5
import Derived.Test.YteocmmejfnmjcaaGreatDoorPackPi6
import Derived.BigQuiet
namespace Go.Proofs.YteocmmejfnmjcaaGreatDoor
open Go.RowKit

theorem cells2_keep {w0 w w' : World} {b o : Nat} {u v : Value} (h : Chg Never w0 w ∧ w.cell? ⟨b, o, none⟩ = some u ∧ w.cell? ⟨b, o + 2, none⟩ = some v) (hc : Chg Never w w') :
    Chg Never w0 w' ∧ w'.cell? ⟨b, o, none⟩ = some u ∧ w'.cell? ⟨b, o + 2, none⟩ = some v := ⟨h.1.trans hc, hc.cellNever h.2.1, hc.cellNever h.2.2⟩
theorem firstClash_step {a : List ByteArray} {l : List Hunk} {k : Nat} {x : Hunk} (hx : l[k]? = some x) (hs : standsB a x.old (oldOf x.marks) = true) : firstClash a k (l.drop k) = firstClash a (k + 1) (l.drop (k + 1)) := by
  rw [drop_eq hx, firstClash, if_pos hs]
theorem firstClash_hit {a : List ByteArray} {l : List Hunk} {k : Nat} {x : Hunk} (hx : l[k]? = some x) (hs : standsB a x.old (oldOf x.marks) = false) : firstClash a k (l.drop k) = some k := by
  rw [drop_eq hx, firstClash, if_neg (by simp [hs])]
theorem firstClash_end (a : List ByteArray) (l : List Hunk) : firstClash a l.length (l.drop l.length) = none := by rw [List.drop_length]; rfl
/-- strict, by way of the last hunk first -/
theorem strict_clash {a : List ByteArray} {l : List Hunk} {k : Nat} (h1 : linesFault a = 0) (h2 : hunksFault l = (0, 0)) (hf : firstClash a 0 l = some k) : strict a l = ([], k, 6) := by
  have hok := (hunksFault_zero (l := l) (by rw [h2])).2
  rw [strict, if_neg (by simp [h1]), if_neg (by simp [h2]), strictGo_back a l 0 0 [] 0 (Nat.zero_le _) hok, hf]
theorem strict_back {a : List ByteArray} {l : List Hunk} (h1 : linesFault a = 0) (h2 : hunksFault l = (0, 0)) (hf : firstClash a 0 l = none) : strict a l = if 60 < (backDo a l).length then ([], 0, 3) else (backDo a l, 0, 0) := by
  have hok := (hunksFault_zero (l := l) (by rw [h2])).2
  rw [strict, if_neg (by simp [h1]), if_neg (by simp [h2]), strictGo_back a l 0 0 [] 0 (Nat.zero_le _) hok, hf]
  simp
theorem firstClash_drop : ∀ (a : List ByteArray) (l : List Hunk) (i k : Nat), firstClash a i l = none → firstClash a (i + k) (l.drop k) = none
  | _, _, _, 0, h => by simpa using h
  | a, [], i, k + 1, h => by simp [firstClash]
  | a, x :: r, i, k + 1, h => by
    rw [firstClash] at h
    by_cases hs : standsB a x.old (oldOf x.marks) = true
    · rw [if_pos hs] at h
      have := firstClash_drop a r (i + 1) k h
      rw [List.drop_succ_cons, show i + (k + 1) = i + 1 + k by omega]
      exact this
    · rw [if_neg hs] at h; cases h
/-- what the step from number q + 1 to number q asks -/
theorem back_step {a : List ByteArray} {l : List Hunk} {q : Nat} {x : Hunk} (h2 : hunksFault l = (0, 0)) (hf : firstClash a 0 l = none) (hx : l[q]? = some x) :
    ∃ o : Nat, x.old = o ∧ o ≤ 60 ∧ o + oldN x.marks ≤ (backDo a (l.drop (q + 1))).length ∧ backDo a (l.drop q) = repl (backDo a (l.drop (q + 1))) o (oldN x.marks) (newOf x.marks) := by
  have hok := (hunksFault_zero (l := l) (by rw [h2])).2
  have hs := firstClash_none a l 0 hf x (List.mem_of_getElem? hx)
  obtain ⟨b0, b1⟩ := stands_bound hs
  obtain ⟨o, ho⟩ := Int.eq_ofNat_of_zero_le b0
  rw [ho, Int.toNat_natCast] at b1
  obtain ⟨fin', more', hk, _⟩ := hOk_drop l 0 0 q hok
  rw [drop_eq hx] at hk
  obtain ⟨_, _, z3, _, z5, _⟩ := oneFault_zero hk.1
  have hk2 : hOk ((o + oldN x.marks : Nat) : Int) (more' + newN x.marks - oldN x.marks) (l.drop (q + 1)) := by have := hk.2; rw [ho] at this; push_cast; exact this
  have hfd := firstClash_drop a l 0 (q + 1) hf
  obtain ⟨_, i2⟩ := back_take a _ _ _ _ b1 hk2 hfd
  refine ⟨o, ho, by omega, i2, ?_⟩
  rw [drop_eq hx, backDo_cons, ho, Int.toNat_natCast]

set_option maxHeartbeats 4000000 in
set_option maxRecDepth 100000 in
theorem strictOf_any (a : List ByteArray) (l : List Hunk) (va vl : Value) (w : World) (ha : Rdv w Never va a) (hl : Rdv w Never vl l) :
    Calls Tryz.prog 33 #[va, vl] w fun e w' => ∃ r, e = .returned (.tuple #[r, .int .i64 (strict a l).2.1, .int .i64 (strict a l).2.2]) ∧ Chg Never w w' ∧ Rdv w' Never r (strict a l).1 := by
  by_cases h1 : linesFault a = 0
  · by_cases h2 : (hunksFault l).2 = 0
    · have h2' := hunksFault_first h2
      obtain ⟨hl60, hok⟩ := hunksFault_zero (l := l) h2
      have hla := linesFault_len h1
      have hmem := hOk_mem _ _ _ hok
      have ho60 := hOk_old _ _ _ hok
      have H1 := Lib.hid h1
      have H2 := Lib.hid h2'
      have t1 : (linesFault a != 0) = false := by rw [h1]; rfl
      have hn120 : ∀ x ∈ l, newN x.marks ≤ 120 := fun x hx => Nat.le_trans (newN_le _) (scriptFault_len (hmem x hx))
      obtain ⟨aa, acap, rfl, a1, a2, _⟩ := rdv_slice ha
      obtain ⟨la, lcap, rfl, l1, l2, l3⟩ := rdv_slice hl
      unfold maxLen at a2 l2
      clear h1 h2 h2' hok
      go_enter Tryz.func33, Tryz.ntmps33
      go_wp2_with fail
      refine (refLines_any a _ _ ha).mono ?_
      rintro e w1 ⟨rfl, hw⟩
      rw [H1.out]
      go_wp2_with fail
      refine (refHunks_any l _ _ (hl.never hw)).mono ?_
      rintro e w2 ⟨rfl, hc2⟩
      have hw := hw.trans hc2
      clear hc2
      rw [H2.out]
      go_wp2_with fail
      go_loopw [9] (fun i wr => ∃ k : Nat, k ≤ l.length ∧ i = .int .i64 k ∧ Chg Never w wr ∧ Hid (firstClash a 0 l = firstClash a k (l.drop k))) (fun i _ => l.length - (intOf i).toNat)
      case atStart => exact ⟨0, Nat.zero_le _, rfl, hw, rfl⟩
      case round =>
        clear hw
        obtain ⟨k, hk, rfl, hc, hf⟩ := hrel
        by_cases hlt : k < l.length
        · obtain ⟨x, hx⟩ : ∃ x, l[k]? = some x := ⟨l[k], by simp [hlt]⟩
          obtain ⟨b, off, mv, rfl, _, _, c0, c1, c2, hmv⟩ := elems_hunk l3 hx
          have c0 := hc.cellNever c0
          have c2 := hc.cellNever c2
          have hmv := hmv.never hc
          have hav := ha.never hc
          have HSF := Lib.hid (hmem x (List.mem_of_getElem? hx))
          have hml := scriptFault_len HSF.out
          have hol : (those x.marks 43).length ≤ 120 := Nat.le_trans (those_le _ _) hml
          obtain ⟨o0, o1⟩ := ho60 x (List.mem_of_getElem? hx)
          have HX := Lib.hid hx
          have b1 : (k : Int) < l.length := by omega
          clear hx c1 ha hl
          go_wp2_with fail
          cases hs : standsB a x.old (those x.marks 43) with
          | true =>
            have HS := Lib.hid hs
            clear hs l3
            refine wp_region_held_drew (S := fun w' => Chg Never wr w' ∧ w'.cell? ⟨b, off + k * 3, none⟩ = some (.int .i64 x.old) ∧ w'.cell? ⟨b, off + k * 3 + 2, none⟩ = some mv) (by kernel_rfl) ⟨(Chg.refl _ _).drew, c0, c2⟩ (fun hH => ?_)
            refine' wpAnyH_take (i := 0) ?hi0 (by kernel_rfl) (by kernel_rfl) (by kernel_rfl) ?hQ0 (Or.inl ⟨?hw0, ?hy0⟩) (by assumption) ?_
            case hi0 => (simp only [List.getElem?_toArray, List.getElem?_cons_succ, List.getElem?_cons_zero]; rfl)
            case hQ0 => exact fun _ _ _ h => h
            case hw0 => rfl
            case hy0 => (intro w' hSw; (try dsimp only at hSw); go_simp; all_goals with_reducible rfl)
            try simp only [Act.put, List.setIfInBounds_toArray, List.set_cons_zero, List.set_cons_succ]
            refine' wpAnyH_take (i := 1) ?hi1 (by kernel_rfl) (by kernel_rfl) (by kernel_rfl) ?hQ1 (Or.inl ⟨?hw1, ?hy1⟩) (by assumption) ?_
            case hi1 => (simp only [List.getElem?_toArray, List.getElem?_cons_succ, List.getElem?_cons_zero]; rfl)
            case hQ1 => exact fun _ _ _ h => h
            case hw1 => rfl
            case hy1 => (intro w' hSw; (try dsimp only at hSw); go_simp; all_goals with_reducible rfl)
            try simp only [Act.put, List.setIfInBounds_toArray, List.set_cons_zero, List.set_cons_succ]
            refine' wpAnyH_take (i := 2) ?hi2 (by kernel_rfl) (by kernel_rfl) (by kernel_rfl) ?hQ2 (Or.inl ⟨?hw2, ?hy2⟩) (by assumption) ?_
            case hi2 => (simp only [List.getElem?_toArray, List.getElem?_cons_succ, List.getElem?_cons_zero]; rfl)
            case hQ2 => exact fun _ _ _ h => h
            case hw2 => rfl
            case hy2 => (intro w' hSw; (try dsimp only at hSw); go_simp; all_goals with_reducible rfl)
            try simp only [Act.put, List.setIfInBounds_toArray, List.set_cons_zero, List.set_cons_succ]
            refine' wpAnyH_take (i := 3) ?hi3 (by kernel_rfl) (by kernel_rfl) (by kernel_rfl) ?hQ3 (Or.inl ⟨?hw3, ?hy3⟩) (by assumption) ?_
            case hi3 => (simp only [List.getElem?_toArray, List.getElem?_cons_succ, List.getElem?_cons_zero]; rfl)
            case hQ3 => exact fun _ _ _ h => h
            case hw3 => rfl
            case hy3 => (intro w' hSw; (try dsimp only at hSw); go_simp; all_goals with_reducible rfl)
            try simp only [Act.put, List.setIfInBounds_toArray, List.set_cons_zero, List.set_cons_succ]
            refine' wpAnyH_take (i := 4) ?hi4 (by kernel_rfl) (by kernel_rfl) (by kernel_rfl) ?hQ4 (Or.inl ⟨?hw4, ?hy4⟩) (by assumption) ?_
            case hi4 => (simp only [List.getElem?_toArray, List.getElem?_cons_succ, List.getElem?_cons_zero]; rfl)
            case hQ4 => exact fun _ _ _ h => h
            case hw4 => rfl
            case hy4 => (intro w' hSw; (try dsimp only at hSw); go_simp; all_goals with_reducible rfl)
            try simp only [Act.put, List.setIfInBounds_toArray, List.set_cons_zero, List.set_cons_succ]
            refine' wpAnyH_take (i := 5) ?hi5 (by kernel_rfl) (by kernel_rfl) (by kernel_rfl) ?hQ5 (Or.inl ⟨?hw5, ?hy5⟩) (by assumption) ?_
            case hi5 => (simp only [List.getElem?_toArray, List.getElem?_cons_succ, List.getElem?_cons_zero]; rfl)
            case hQ5 => exact fun _ _ _ h => h
            case hw5 => rfl
            case hy5 => (intro w' hSw; (try dsimp only at hSw); go_simp; all_goals with_reducible rfl)
            try simp only [Act.put, List.setIfInBounds_toArray, List.set_cons_zero, List.set_cons_succ]
            refine' wpAnyH_take (i := 6) ?hi6 (by kernel_rfl) (by kernel_rfl) (by kernel_rfl) ?hQ6 (Or.inl ⟨?hw6, ?hy6⟩) (by assumption) ?_
            case hi6 => (simp only [List.getElem?_toArray, List.getElem?_cons_succ, List.getElem?_cons_zero]; rfl)
            case hQ6 => exact fun _ _ _ h => h
            case hw6 => rfl
            case hy6 => (intro w' hSw; (try dsimp only at hSw); go_simp; all_goals with_reducible rfl)
            try simp only [Act.put, List.setIfInBounds_toArray, List.set_cons_zero, List.set_cons_succ]
            refine' wpAnyH_take (i := 7) ?hi7 (by kernel_rfl) (by kernel_rfl) (by kernel_rfl) ?hQ7 (Or.inl ⟨?hw7, ?hy7⟩) (by assumption) ?_
            case hi7 => (simp only [List.getElem?_toArray, List.getElem?_cons_succ, List.getElem?_cons_zero]; rfl)
            case hQ7 => exact fun _ _ _ h => h
            case hw7 => rfl
            case hy7 => (intro w' hSw; (try dsimp only at hSw); go_simp; all_goals with_reducible rfl)
            try simp only [Act.put, List.setIfInBounds_toArray, List.set_cons_zero, List.set_cons_succ]
            refine' wpAnyH_take (i := 8) ?hi8 (by kernel_rfl) (by kernel_rfl) (by kernel_rfl) ?hQ8 (Or.inl ⟨?hw8, ?hy8⟩) (by assumption) ?_
            case hi8 => (simp only [List.getElem?_toArray, List.getElem?_cons_succ, List.getElem?_cons_zero]; rfl)
            case hQ8 => exact fun _ _ _ h => h
            case hw8 => rfl
            case hy8 => (intro w' hSw; (try dsimp only at hSw); go_simp; all_goals with_reducible rfl)
            try simp only [Act.put, List.setIfInBounds_toArray, List.set_cons_zero, List.set_cons_succ]
            refine' wpAnyH_take (i := 9) ?hi9 (by kernel_rfl) (by kernel_rfl) (by kernel_rfl) ?hQ9 (Or.inl ⟨?hw9, ?hy9⟩) (by assumption) ?_
            case hi9 => (simp only [List.getElem?_toArray, List.getElem?_cons_succ, List.getElem?_cons_zero]; rfl)
            case hQ9 => exact fun _ _ _ h => h
            case hw9 => rfl
            case hy9 => (intro w' hSw; (try dsimp only at hSw); go_simp; all_goals with_reducible rfl)
            try simp only [Act.put, List.setIfInBounds_toArray, List.set_cons_zero, List.set_cons_succ]
            refine' wpAnyH_take (i := 10) ?hi10 (by kernel_rfl) (by kernel_rfl) (by kernel_rfl) ?hQ10 (Or.inl ⟨?hw10, ?hy10⟩) (by assumption) ?_
            case hi10 => (simp only [List.getElem?_toArray, List.getElem?_cons_succ, List.getElem?_cons_zero]; rfl)
            case hQ10 => exact fun _ _ _ h => h
            case hw10 => rfl
            case hy10 => (intro w' hSw; (try dsimp only at hSw); go_simp; all_goals with_reducible rfl)
            try simp only [Act.put, List.setIfInBounds_toArray, List.set_cons_zero, List.set_cons_succ]
            refine wpAnyH_ready (rs := [11]) (by kernel_rfl) (by simp) ?_
            refine AllReadyH.cons rfl (fun K hK => ?_) AllReadyH.nil
            go_simp
            (go_at_call 24; refine (refOld_any x.marks _ _ (hmv.never (And.left hH)) HSF.out).mono ?_; rintro e wq ⟨rq, rfl, hcq, hrq⟩; have hrO := hrq.sub (O' := Never) (fun _ _ h => h.elim); clear hrq; obtain ⟨oa, oc, rfl, _, _, _⟩ := rdv_slice hrO; have hS2 := cells2_keep hH hcq; clear hH hcq)
            try go_wp2_with fail
            refine hK.out _ _ ?_ (fun hH => ?_)
            · assumption
            clear hK K
            try simp only [Act.put, List.setIfInBounds_toArray, List.set_cons_zero, List.set_cons_succ]
            refine wpAnyH_ready (rs := [12]) (by kernel_rfl) (by simp) ?_
            refine AllReadyH.cons rfl (fun K hK => ?_) AllReadyH.nil
            go_simp
            (go_at_call 60; refine (refStands_any a (those x.marks 43) x.old _ _ _ (hav.never (And.left hH)) hrO (by omega) (by omega) (by omega) (by omega)).mono ?_; rintro e wq2 ⟨rfl, hcq2⟩; have hS3 := cells2_keep hH hcq2; clear hH hcq2; rw [HS.out])
            try go_wp2_with fail
            refine hK.out _ _ ?_ (fun hH => ?_)
            · assumption
            clear hK K
            try simp only [Act.put, List.setIfInBounds_toArray, List.set_cons_zero, List.set_cons_succ]
            refine' wpAnyH_take (i := 13) ?hi13 (by kernel_rfl) (by kernel_rfl) (by kernel_rfl) ?hQ13 (Or.inl ⟨?hw13, ?hy13⟩) (by assumption) ?_
            case hi13 => (simp only [List.getElem?_toArray, List.getElem?_cons_succ, List.getElem?_cons_zero]; rfl)
            case hQ13 => exact fun _ _ _ h => h
            case hw13 => rfl
            case hy13 => (intro w' hSw; (try dsimp only at hSw); go_simp; all_goals with_reducible rfl)
            try simp only [Act.put, List.setIfInBounds_toArray, List.set_cons_zero, List.set_cons_succ]
            refine wpAnyH_done (by kernel_rfl) ?_ _
            have hcF := hc.trans (And.left hH)
            clear hH c0 c2 hmv hav hrO
            go_wp2_with fail
            go_roundw
            case rel => exact ⟨k + 1, by omega, by go_num, hcF, by rw [Hid, hf.out]; exact firstClash_step HX.out HS.out⟩
            case measure => simp [intOf] <;> omega
          | false =>
            have HS := Lib.hid hs
            have HB := Lib.hid (strict_clash H1.out H2.out (by rw [hf.out]; exact firstClash_hit HX.out HS.out))
            clear hs l3
            refine wp_region_held_drew (S := fun w' => Chg Never wr w' ∧ w'.cell? ⟨b, off + k * 3, none⟩ = some (.int .i64 x.old) ∧ w'.cell? ⟨b, off + k * 3 + 2, none⟩ = some mv) (by kernel_rfl) ⟨(Chg.refl _ _).drew, c0, c2⟩ (fun hH => ?_)
            refine' wpAnyH_take (i := 0) ?hi0 (by kernel_rfl) (by kernel_rfl) (by kernel_rfl) ?hQ0 (Or.inl ⟨?hw0, ?hy0⟩) (by assumption) ?_
            case hi0 => (simp only [List.getElem?_toArray, List.getElem?_cons_succ, List.getElem?_cons_zero]; rfl)
            case hQ0 => exact fun _ _ _ h => h
            case hw0 => rfl
            case hy0 => (intro w' hSw; (try dsimp only at hSw); go_simp; all_goals with_reducible rfl)
            try simp only [Act.put, List.setIfInBounds_toArray, List.set_cons_zero, List.set_cons_succ]
            refine' wpAnyH_take (i := 1) ?hi1 (by kernel_rfl) (by kernel_rfl) (by kernel_rfl) ?hQ1 (Or.inl ⟨?hw1, ?hy1⟩) (by assumption) ?_
            case hi1 => (simp only [List.getElem?_toArray, List.getElem?_cons_succ, List.getElem?_cons_zero]; rfl)
            case hQ1 => exact fun _ _ _ h => h
            case hw1 => rfl
            case hy1 => (intro w' hSw; (try dsimp only at hSw); go_simp; all_goals with_reducible rfl)
            try simp only [Act.put, List.setIfInBounds_toArray, List.set_cons_zero, List.set_cons_succ]
            refine' wpAnyH_take (i := 2) ?hi2 (by kernel_rfl) (by kernel_rfl) (by kernel_rfl) ?hQ2 (Or.inl ⟨?hw2, ?hy2⟩) (by assumption) ?_
            case hi2 => (simp only [List.getElem?_toArray, List.getElem?_cons_succ, List.getElem?_cons_zero]; rfl)
            case hQ2 => exact fun _ _ _ h => h
            case hw2 => rfl
            case hy2 => (intro w' hSw; (try dsimp only at hSw); go_simp; all_goals with_reducible rfl)
            try simp only [Act.put, List.setIfInBounds_toArray, List.set_cons_zero, List.set_cons_succ]
            refine' wpAnyH_take (i := 3) ?hi3 (by kernel_rfl) (by kernel_rfl) (by kernel_rfl) ?hQ3 (Or.inl ⟨?hw3, ?hy3⟩) (by assumption) ?_
            case hi3 => (simp only [List.getElem?_toArray, List.getElem?_cons_succ, List.getElem?_cons_zero]; rfl)
            case hQ3 => exact fun _ _ _ h => h
            case hw3 => rfl
            case hy3 => (intro w' hSw; (try dsimp only at hSw); go_simp; all_goals with_reducible rfl)
            try simp only [Act.put, List.setIfInBounds_toArray, List.set_cons_zero, List.set_cons_succ]
            refine' wpAnyH_take (i := 4) ?hi4 (by kernel_rfl) (by kernel_rfl) (by kernel_rfl) ?hQ4 (Or.inl ⟨?hw4, ?hy4⟩) (by assumption) ?_
            case hi4 => (simp only [List.getElem?_toArray, List.getElem?_cons_succ, List.getElem?_cons_zero]; rfl)
            case hQ4 => exact fun _ _ _ h => h
            case hw4 => rfl
            case hy4 => (intro w' hSw; (try dsimp only at hSw); go_simp; all_goals with_reducible rfl)
            try simp only [Act.put, List.setIfInBounds_toArray, List.set_cons_zero, List.set_cons_succ]
            refine' wpAnyH_take (i := 5) ?hi5 (by kernel_rfl) (by kernel_rfl) (by kernel_rfl) ?hQ5 (Or.inl ⟨?hw5, ?hy5⟩) (by assumption) ?_
            case hi5 => (simp only [List.getElem?_toArray, List.getElem?_cons_succ, List.getElem?_cons_zero]; rfl)
            case hQ5 => exact fun _ _ _ h => h
            case hw5 => rfl
            case hy5 => (intro w' hSw; (try dsimp only at hSw); go_simp; all_goals with_reducible rfl)
            try simp only [Act.put, List.setIfInBounds_toArray, List.set_cons_zero, List.set_cons_succ]
            refine' wpAnyH_take (i := 6) ?hi6 (by kernel_rfl) (by kernel_rfl) (by kernel_rfl) ?hQ6 (Or.inl ⟨?hw6, ?hy6⟩) (by assumption) ?_
            case hi6 => (simp only [List.getElem?_toArray, List.getElem?_cons_succ, List.getElem?_cons_zero]; rfl)
            case hQ6 => exact fun _ _ _ h => h
            case hw6 => rfl
            case hy6 => (intro w' hSw; (try dsimp only at hSw); go_simp; all_goals with_reducible rfl)
            try simp only [Act.put, List.setIfInBounds_toArray, List.set_cons_zero, List.set_cons_succ]
            refine' wpAnyH_take (i := 7) ?hi7 (by kernel_rfl) (by kernel_rfl) (by kernel_rfl) ?hQ7 (Or.inl ⟨?hw7, ?hy7⟩) (by assumption) ?_
            case hi7 => (simp only [List.getElem?_toArray, List.getElem?_cons_succ, List.getElem?_cons_zero]; rfl)
            case hQ7 => exact fun _ _ _ h => h
            case hw7 => rfl
            case hy7 => (intro w' hSw; (try dsimp only at hSw); go_simp; all_goals with_reducible rfl)
            try simp only [Act.put, List.setIfInBounds_toArray, List.set_cons_zero, List.set_cons_succ]
            refine' wpAnyH_take (i := 8) ?hi8 (by kernel_rfl) (by kernel_rfl) (by kernel_rfl) ?hQ8 (Or.inl ⟨?hw8, ?hy8⟩) (by assumption) ?_
            case hi8 => (simp only [List.getElem?_toArray, List.getElem?_cons_succ, List.getElem?_cons_zero]; rfl)
            case hQ8 => exact fun _ _ _ h => h
            case hw8 => rfl
            case hy8 => (intro w' hSw; (try dsimp only at hSw); go_simp; all_goals with_reducible rfl)
            try simp only [Act.put, List.setIfInBounds_toArray, List.set_cons_zero, List.set_cons_succ]
            refine' wpAnyH_take (i := 9) ?hi9 (by kernel_rfl) (by kernel_rfl) (by kernel_rfl) ?hQ9 (Or.inl ⟨?hw9, ?hy9⟩) (by assumption) ?_
            case hi9 => (simp only [List.getElem?_toArray, List.getElem?_cons_succ, List.getElem?_cons_zero]; rfl)
            case hQ9 => exact fun _ _ _ h => h
            case hw9 => rfl
            case hy9 => (intro w' hSw; (try dsimp only at hSw); go_simp; all_goals with_reducible rfl)
            try simp only [Act.put, List.setIfInBounds_toArray, List.set_cons_zero, List.set_cons_succ]
            refine' wpAnyH_take (i := 10) ?hi10 (by kernel_rfl) (by kernel_rfl) (by kernel_rfl) ?hQ10 (Or.inl ⟨?hw10, ?hy10⟩) (by assumption) ?_
            case hi10 => (simp only [List.getElem?_toArray, List.getElem?_cons_succ, List.getElem?_cons_zero]; rfl)
            case hQ10 => exact fun _ _ _ h => h
            case hw10 => rfl
            case hy10 => (intro w' hSw; (try dsimp only at hSw); go_simp; all_goals with_reducible rfl)
            try simp only [Act.put, List.setIfInBounds_toArray, List.set_cons_zero, List.set_cons_succ]
            refine wpAnyH_ready (rs := [11]) (by kernel_rfl) (by simp) ?_
            refine AllReadyH.cons rfl (fun K hK => ?_) AllReadyH.nil
            go_simp
            (go_at_call 24; refine (refOld_any x.marks _ _ (hmv.never (And.left hH)) HSF.out).mono ?_; rintro e wq ⟨rq, rfl, hcq, hrq⟩; have hrO := hrq.sub (O' := Never) (fun _ _ h => h.elim); clear hrq; obtain ⟨oa, oc, rfl, _, _, _⟩ := rdv_slice hrO; have hS2 := cells2_keep hH hcq; clear hH hcq)
            try go_wp2_with fail
            refine hK.out _ _ ?_ (fun hH => ?_)
            · assumption
            clear hK K
            try simp only [Act.put, List.setIfInBounds_toArray, List.set_cons_zero, List.set_cons_succ]
            refine wpAnyH_ready (rs := [12]) (by kernel_rfl) (by simp) ?_
            refine AllReadyH.cons rfl (fun K hK => ?_) AllReadyH.nil
            go_simp
            (go_at_call 60; refine (refStands_any a (those x.marks 43) x.old _ _ _ (hav.never (And.left hH)) hrO (by omega) (by omega) (by omega) (by omega)).mono ?_; rintro e wq2 ⟨rfl, hcq2⟩; have hS3 := cells2_keep hH hcq2; clear hH hcq2; rw [HS.out])
            try go_wp2_with fail
            refine hK.out _ _ ?_ (fun hH => ?_)
            · assumption
            clear hK K
            try simp only [Act.put, List.setIfInBounds_toArray, List.set_cons_zero, List.set_cons_succ]
            refine' wpAnyH_take (i := 13) ?hi13 (by kernel_rfl) (by kernel_rfl) (by kernel_rfl) ?hQ13 (Or.inl ⟨?hw13, ?hy13⟩) (by assumption) ?_
            case hi13 => (simp only [List.getElem?_toArray, List.getElem?_cons_succ, List.getElem?_cons_zero]; rfl)
            case hQ13 => exact fun _ _ _ h => h
            case hw13 => rfl
            case hy13 => (intro w' hSw; (try dsimp only at hSw); go_simp; all_goals with_reducible rfl)
            try simp only [Act.put, List.setIfInBounds_toArray, List.set_cons_zero, List.set_cons_succ]
            refine wpAnyH_done (by kernel_rfl) ?_ _
            have hcF := hc.trans (And.left hH)
            clear hH c0 c2 hmv hav hrO
            go_wp2_with fail
            go_ret3
            exact ⟨.slice none 0 0, by rw [HB.out]; rfl, hcF, by rw [HB.out]; exact rdv_nil _ _⟩
        · obtain rfl : k = l.length := by omega
          have HFC : Hid (firstClash a 0 l = none) := by rw [Hid, hf.out, List.drop_length]; rfl
          have HST := Lib.hid (strict_back H1.out H2.out HFC.out)
          clear hf hlt hk
          go_wp2_with fail
          go_loopw [11, 12] (fun o i wr => ∃ (y : Int) (oa : Option Addr) (oc : Nat), -1 ≤ y ∧ y < l.length ∧ i = .int .i64 y ∧ Chg Never w wr ∧ o = .slice oa (backDo a (l.drop (y + 1).toNat)).length oc ∧ Rdv wr Never o (backDo a (l.drop (y + 1).toNat))) (fun _ i _ => (intOf i + 1).toNat)
          case atStart => exact ⟨(l.length : Int) - 1, _, _, by omega, by omega, rfl, hc, by rw [show ((l.length : Int) - 1 + 1).toNat = l.length by omega, List.drop_length]; rfl, by rw [show ((l.length : Int) - 1 + 1).toNat = l.length by omega, List.drop_length]; exact ha.never hc⟩
          case round =>
            clear hc
            obtain ⟨y, oa, oc, hy0, hy1, rfl, hc, rfl, hov⟩ := hrel
            by_cases hy : 0 ≤ y
            · obtain ⟨k, rfl⟩ := Int.eq_ofNat_of_zero_le hy
              rw [show ((k : Int) + 1).toNat = k + 1 by omega] at hov ⊢
              have hlt : k < l.length := by omega
              obtain ⟨x, hx⟩ : ∃ x, l[k]? = some x := ⟨l[k], by simp [hlt]⟩
              obtain ⟨b, off, mv, rfl, _, _, c0, c1, c2, hmv⟩ := elems_hunk l3 hx
              have c0 := hc.cellNever c0
              have c2 := hc.cellNever c2
              have hmv := hmv.never hc
              have HSF := Lib.hid (hmem x (List.mem_of_getElem? hx))
              have hml := scriptFault_len HSF.out
              have hol : (those x.marks 43).length ≤ 120 := Nat.le_trans (those_le _ _) hml
              have hnl : (those x.marks 45).length ≤ 120 := Nat.le_trans (those_le _ _) hml
              obtain ⟨o, ho, ho6, hole, hbk⟩ := back_step H2.out HFC.out hx
              have HBK := Lib.hid hbk
              have hbl := backDo_length a (l.drop (k + 1)) (fun z hz => hn120 z (List.mem_of_mem_drop hz))
              rw [List.length_drop] at hbl
              have eo : oldN x.marks = (those x.marks 43).length := rfl
              have en : newOf x.marks = those x.marks 45 := rfl
              rw [ho] at c0
              clear hx c1 l3 ha hl hbk
              generalize backDo a (l.drop (k + 1)) = BK at *
              go_wp2_with fail
              refine wp_region_held_drew (S := fun w' => Chg Never wr w' ∧ w'.cell? ⟨b, off + k * 3, none⟩ = some (.int .i64 (o : Int)) ∧ w'.cell? ⟨b, off + k * 3 + 2, none⟩ = some mv) (by kernel_rfl) ⟨(Chg.refl _ _).drew, c0, c2⟩ (fun hH => ?_)
              refine' wpAnyH_take (i := 0) ?hi0 (by kernel_rfl) (by kernel_rfl) (by kernel_rfl) ?hQ0 (Or.inl ⟨?hw0, ?hy0⟩) (by assumption) ?_
              case hi0 => (simp only [List.getElem?_toArray, List.getElem?_cons_succ, List.getElem?_cons_zero]; rfl)
              case hQ0 => exact fun _ _ _ h => h
              case hw0 => rfl
              case hy0 => (intro w' hSw; (try dsimp only at hSw); go_simp; all_goals with_reducible rfl)
              try simp only [Act.put, List.setIfInBounds_toArray, List.set_cons_zero, List.set_cons_succ]
              refine' wpAnyH_take (i := 1) ?hi1 (by kernel_rfl) (by kernel_rfl) (by kernel_rfl) ?hQ1 (Or.inl ⟨?hw1, ?hy1⟩) (by assumption) ?_
              case hi1 => (simp only [List.getElem?_toArray, List.getElem?_cons_succ, List.getElem?_cons_zero]; rfl)
              case hQ1 => exact fun _ _ _ h => h
              case hw1 => rfl
              case hy1 => (intro w' hSw; (try dsimp only at hSw); go_simp; all_goals with_reducible rfl)
              try simp only [Act.put, List.setIfInBounds_toArray, List.set_cons_zero, List.set_cons_succ]
              refine' wpAnyH_take (i := 2) ?hi2 (by kernel_rfl) (by kernel_rfl) (by kernel_rfl) ?hQ2 (Or.inl ⟨?hw2, ?hy2⟩) (by assumption) ?_
              case hi2 => (simp only [List.getElem?_toArray, List.getElem?_cons_succ, List.getElem?_cons_zero]; rfl)
              case hQ2 => exact fun _ _ _ h => h
              case hw2 => rfl
              case hy2 => (intro w' hSw; (try dsimp only at hSw); go_simp; all_goals with_reducible rfl)
              try simp only [Act.put, List.setIfInBounds_toArray, List.set_cons_zero, List.set_cons_succ]
              refine' wpAnyH_take (i := 3) ?hi3 (by kernel_rfl) (by kernel_rfl) (by kernel_rfl) ?hQ3 (Or.inl ⟨?hw3, ?hy3⟩) (by assumption) ?_
              case hi3 => (simp only [List.getElem?_toArray, List.getElem?_cons_succ, List.getElem?_cons_zero]; rfl)
              case hQ3 => exact fun _ _ _ h => h
              case hw3 => rfl
              case hy3 => (intro w' hSw; (try dsimp only at hSw); go_simp; all_goals with_reducible rfl)
              try simp only [Act.put, List.setIfInBounds_toArray, List.set_cons_zero, List.set_cons_succ]
              refine' wpAnyH_take (i := 4) ?hi4 (by kernel_rfl) (by kernel_rfl) (by kernel_rfl) ?hQ4 (Or.inl ⟨?hw4, ?hy4⟩) (by assumption) ?_
              case hi4 => (simp only [List.getElem?_toArray, List.getElem?_cons_succ, List.getElem?_cons_zero]; rfl)
              case hQ4 => exact fun _ _ _ h => h
              case hw4 => rfl
              case hy4 => (intro w' hSw; (try dsimp only at hSw); go_simp; all_goals with_reducible rfl)
              try simp only [Act.put, List.setIfInBounds_toArray, List.set_cons_zero, List.set_cons_succ]
              refine' wpAnyH_take (i := 5) ?hi5 (by kernel_rfl) (by kernel_rfl) (by kernel_rfl) ?hQ5 (Or.inl ⟨?hw5, ?hy5⟩) (by assumption) ?_
              case hi5 => (simp only [List.getElem?_toArray, List.getElem?_cons_succ, List.getElem?_cons_zero]; rfl)
              case hQ5 => exact fun _ _ _ h => h
              case hw5 => rfl
              case hy5 => (intro w' hSw; (try dsimp only at hSw); go_simp; all_goals with_reducible rfl)
              try simp only [Act.put, List.setIfInBounds_toArray, List.set_cons_zero, List.set_cons_succ]
              refine' wpAnyH_take (i := 6) ?hi6 (by kernel_rfl) (by kernel_rfl) (by kernel_rfl) ?hQ6 (Or.inl ⟨?hw6, ?hy6⟩) (by assumption) ?_
              case hi6 => (simp only [List.getElem?_toArray, List.getElem?_cons_succ, List.getElem?_cons_zero]; rfl)
              case hQ6 => exact fun _ _ _ h => h
              case hw6 => rfl
              case hy6 => (intro w' hSw; (try dsimp only at hSw); go_simp; all_goals with_reducible rfl)
              try simp only [Act.put, List.setIfInBounds_toArray, List.set_cons_zero, List.set_cons_succ]
              refine' wpAnyH_take (i := 7) ?hi7 (by kernel_rfl) (by kernel_rfl) (by kernel_rfl) ?hQ7 (Or.inl ⟨?hw7, ?hy7⟩) (by assumption) ?_
              case hi7 => (simp only [List.getElem?_toArray, List.getElem?_cons_succ, List.getElem?_cons_zero]; rfl)
              case hQ7 => exact fun _ _ _ h => h
              case hw7 => rfl
              case hy7 => (intro w' hSw; (try dsimp only at hSw); go_simp; all_goals with_reducible rfl)
              try simp only [Act.put, List.setIfInBounds_toArray, List.set_cons_zero, List.set_cons_succ]
              refine' wpAnyH_take (i := 8) ?hi8 (by kernel_rfl) (by kernel_rfl) (by kernel_rfl) ?hQ8 (Or.inl ⟨?hw8, ?hy8⟩) (by assumption) ?_
              case hi8 => (simp only [List.getElem?_toArray, List.getElem?_cons_succ, List.getElem?_cons_zero]; rfl)
              case hQ8 => exact fun _ _ _ h => h
              case hw8 => rfl
              case hy8 => (intro w' hSw; (try dsimp only at hSw); go_simp; all_goals with_reducible rfl)
              try simp only [Act.put, List.setIfInBounds_toArray, List.set_cons_zero, List.set_cons_succ]
              refine' wpAnyH_take (i := 9) ?hi9 (by kernel_rfl) (by kernel_rfl) (by kernel_rfl) ?hQ9 (Or.inl ⟨?hw9, ?hy9⟩) (by assumption) ?_
              case hi9 => (simp only [List.getElem?_toArray, List.getElem?_cons_succ, List.getElem?_cons_zero]; rfl)
              case hQ9 => exact fun _ _ _ h => h
              case hw9 => rfl
              case hy9 => (intro w' hSw; (try dsimp only at hSw); go_simp; all_goals with_reducible rfl)
              try simp only [Act.put, List.setIfInBounds_toArray, List.set_cons_zero, List.set_cons_succ]
              refine' wpAnyH_take (i := 10) ?hi10 (by kernel_rfl) (by kernel_rfl) (by kernel_rfl) ?hQ10 (Or.inl ⟨?hw10, ?hy10⟩) (by assumption) ?_
              case hi10 => (simp only [List.getElem?_toArray, List.getElem?_cons_succ, List.getElem?_cons_zero]; rfl)
              case hQ10 => exact fun _ _ _ h => h
              case hw10 => rfl
              case hy10 => (intro w' hSw; (try dsimp only at hSw); go_simp; all_goals with_reducible rfl)
              try simp only [Act.put, List.setIfInBounds_toArray, List.set_cons_zero, List.set_cons_succ]
              refine' wpAnyH_take (i := 13) ?hi13 (by kernel_rfl) (by kernel_rfl) (by kernel_rfl) ?hQ13 (Or.inl ⟨?hw13, ?hy13⟩) (by assumption) ?_
              case hi13 => (simp only [List.getElem?_toArray, List.getElem?_cons_succ, List.getElem?_cons_zero]; rfl)
              case hQ13 => exact fun _ _ _ h => h
              case hw13 => rfl
              case hy13 => (intro w' hSw; (try dsimp only at hSw); go_simp; all_goals with_reducible rfl)
              try simp only [Act.put, List.setIfInBounds_toArray, List.set_cons_zero, List.set_cons_succ]
              refine' wpAnyH_take (i := 14) ?hi14 (by kernel_rfl) (by kernel_rfl) (by kernel_rfl) ?hQ14 (Or.inl ⟨?hw14, ?hy14⟩) (by assumption) ?_
              case hi14 => (simp only [List.getElem?_toArray, List.getElem?_cons_succ, List.getElem?_cons_zero]; rfl)
              case hQ14 => exact fun _ _ _ h => h
              case hw14 => rfl
              case hy14 => (intro w' hSw; (try dsimp only at hSw); go_simp; all_goals with_reducible rfl)
              try simp only [Act.put, List.setIfInBounds_toArray, List.set_cons_zero, List.set_cons_succ]
              refine' wpAnyH_take (i := 15) ?hi15 (by kernel_rfl) (by kernel_rfl) (by kernel_rfl) ?hQ15 (Or.inl ⟨?hw15, ?hy15⟩) (by assumption) ?_
              case hi15 => (simp only [List.getElem?_toArray, List.getElem?_cons_succ, List.getElem?_cons_zero]; rfl)
              case hQ15 => exact fun _ _ _ h => h
              case hw15 => rfl
              case hy15 => (intro w' hSw; (try dsimp only at hSw); go_simp; all_goals with_reducible rfl)
              try simp only [Act.put, List.setIfInBounds_toArray, List.set_cons_zero, List.set_cons_succ]
              refine' wpAnyH_take (i := 16) ?hi16 (by kernel_rfl) (by kernel_rfl) (by kernel_rfl) ?hQ16 (Or.inl ⟨?hw16, ?hy16⟩) (by assumption) ?_
              case hi16 => (simp only [List.getElem?_toArray, List.getElem?_cons_succ, List.getElem?_cons_zero]; rfl)
              case hQ16 => exact fun _ _ _ h => h
              case hw16 => rfl
              case hy16 => (intro w' hSw; (try dsimp only at hSw); go_simp; all_goals with_reducible rfl)
              try simp only [Act.put, List.setIfInBounds_toArray, List.set_cons_zero, List.set_cons_succ]
              refine' wpAnyH_take (i := 17) ?hi17 (by kernel_rfl) (by kernel_rfl) (by kernel_rfl) ?hQ17 (Or.inl ⟨?hw17, ?hy17⟩) (by assumption) ?_
              case hi17 => (simp only [List.getElem?_toArray, List.getElem?_cons_succ, List.getElem?_cons_zero]; rfl)
              case hQ17 => exact fun _ _ _ h => h
              case hw17 => rfl
              case hy17 => (intro w' hSw; (try dsimp only at hSw); go_simp; all_goals with_reducible rfl)
              try simp only [Act.put, List.setIfInBounds_toArray, List.set_cons_zero, List.set_cons_succ]
              refine wpAnyH_ready (rs := [11]) (by kernel_rfl) (by simp) ?_
              refine AllReadyH.cons rfl (fun K hK => ?_) AllReadyH.nil
              go_simp
              (go_at_call 24; refine (refOld_any x.marks _ _ (hmv.never (And.left hH)) HSF.out).mono ?_; rintro e wq ⟨rq, rfl, hcq, hrq⟩; obtain ⟨qa, qc, rfl, _, _, _⟩ := rdv_slice hrq; have hS2 := cells2_keep hH hcq; clear hH hcq hrq)
              try go_wp2_with fail
              refine hK.out _ _ ?_ (fun hH => ?_)
              · assumption
              clear hK K
              try simp only [Act.put, List.setIfInBounds_toArray, List.set_cons_zero, List.set_cons_succ]
              refine' wpAnyH_take (i := 12) ?hi12 (by kernel_rfl) (by kernel_rfl) (by kernel_rfl) ?hQ12 (Or.inl ⟨?hw12, ?hy12⟩) (by assumption) ?_
              case hi12 => (simp only [List.getElem?_toArray, List.getElem?_cons_succ, List.getElem?_cons_zero]; rfl)
              case hQ12 => exact fun _ _ _ h => h
              case hw12 => rfl
              case hy12 => (intro w' hSw; (try dsimp only at hSw); go_simp; all_goals with_reducible rfl)
              try simp only [Act.put, List.setIfInBounds_toArray, List.set_cons_zero, List.set_cons_succ]
              refine wpAnyH_ready (rs := [18]) (by kernel_rfl) (by simp) ?_
              refine AllReadyH.cons rfl (fun K hK => ?_) AllReadyH.nil
              go_simp
              (go_at_call 25; refine (refNew_any x.marks _ _ (hmv.never (And.left hH)) HSF.out).mono ?_; rintro e wq2 ⟨rq2, rfl, hcq2, hrq2⟩; have hrN := hrq2.sub (O' := Never) (fun _ _ h => h.elim); obtain ⟨na, nc, rfl, _, _, _⟩ := rdv_slice hrN; have hS3 := cells2_keep hH hcq2; clear hH hcq2 hrq2)
              try go_wp2_with fail
              refine hK.out _ _ ?_ (fun hH => ?_)
              · assumption
              clear hK K
              try simp only [Act.put, List.setIfInBounds_toArray, List.set_cons_zero, List.set_cons_succ]
              refine wpAnyH_ready (rs := [19]) (by kernel_rfl) (by simp) ?_
              refine AllReadyH.cons rfl (fun K hK => ?_) AllReadyH.nil
              go_simp
              (go_at_call 61; refine (replaced_any BK (those x.marks 45) o (those x.marks 43).length _ _ _ (hov.never (And.left hH)) hrN (by omega) (by omega) (by omega)).mono ?_; rintro e wq3 ⟨rq3, rfl, hcq3, hrq3⟩; have hrR := hrq3.sub (O' := Never) (fun _ _ h => h.elim); obtain ⟨ra, rc, rfl, _, _, _⟩ := rdv_slice hrR; have hS4 := cells2_keep hH hcq3; clear hH hcq3 hrq3)
              try go_wp2_with fail
              refine hK.out _ _ ?_ (fun hH => ?_)
              · assumption
              clear hK K
              try simp only [Act.put, List.setIfInBounds_toArray, List.set_cons_zero, List.set_cons_succ]
              refine' wpAnyH_take (i := 20) ?hi20 (by kernel_rfl) (by kernel_rfl) (by kernel_rfl) ?hQ20 (Or.inl ⟨?hw20, ?hy20⟩) (by assumption) ?_
              case hi20 => (simp only [List.getElem?_toArray, List.getElem?_cons_succ, List.getElem?_cons_zero]; rfl)
              case hQ20 => exact fun _ _ _ h => h
              case hw20 => rfl
              case hy20 => (intro w' hSw; (try dsimp only at hSw); go_simp; all_goals with_reducible rfl)
              try simp only [Act.put, List.setIfInBounds_toArray, List.set_cons_zero, List.set_cons_succ]
              refine wpAnyH_done (by kernel_rfl) ?_ _
              have hcF := hc.trans (And.left hH)
              clear hH c0 c2 hmv hov hrN
              have hE : repl BK o (those x.marks 43).length (those x.marks 45) = backDo a (l.drop k) := by rw [HBK.out, eo, en]
              rw [hE] at hrR ⊢
              go_wp2_with fail
              go_roundw
              case rel => exact ⟨(k : Int) - 1, ra, rc, by omega, by omega, rfl, hcF, by rw [show ((k : Int) - 1 + 1).toNat = k by omega], by rw [show ((k : Int) - 1 + 1).toNat = k by omega]; exact hrR⟩
              case measure => simp [intOf] <;> omega
            · obtain rfl : y = -1 := by omega
              rw [show ((-1 : Int) + 1).toNat = 0 from rfl, List.drop_zero] at hov ⊢
              have hbl := backDo_length a l hn120
              generalize backDo a l = BK at *
              by_cases h60 : 60 < BK.length
              · have HE : Hid (strict a l = ([], 0, 3)) := by rw [Hid, HST.out, if_pos h60]
                go_wp2_with fail
                go_ret3
                exact ⟨.slice none 0 0, by rw [HE.out]; rfl, hc, by rw [HE.out]; exact rdv_nil _ _⟩
              · have HE : Hid (strict a l = (BK, 0, 0)) := by rw [Hid, HST.out, if_neg h60]
                go_wp2_with fail
                go_ret3
                exact ⟨_, by rw [HE.out]; rfl, hc, by rw [HE.out]; exact hov⟩
    · have HS : Hid (strict a l = ([], (hunksFault l).1, (hunksFault l).2)) := by unfold Hid strict; rw [if_neg (by simp [h1]), if_pos h2]
      have H1 := Lib.hid h1
      have t2 : ((hunksFault l).2 != 0) = true := by simp [h2]
      clear h1 h2
      go_enter Tryz.func33, Tryz.ntmps33
      go_wp2_with fail
      refine (refLines_any a _ _ ha).mono ?_
      rintro e w1 ⟨rfl, hw⟩
      rw [H1.out]
      go_wp2_with fail
      refine (refHunks_any l _ _ (hl.never hw)).mono ?_
      rintro e w2 ⟨rfl, hc2⟩
      have hw := hw.trans hc2
      clear hc2
      go_wp2_with fail
      go_ret3
      exact ⟨.slice none 0 0, by rw [HS.out]; rfl, hw, by rw [HS.out]; exact rdv_nil _ _⟩
  · have HS : Hid (strict a l = ([], 0, linesFault a)) := if_pos h1
    have t1 : (linesFault a != 0) = true := by simp [h1]
    clear h1
    go_enter Tryz.func33, Tryz.ntmps33
    go_wp2_with fail
    refine (refLines_any a _ _ ha).mono ?_
    rintro e w1 ⟨rfl, hw⟩
    go_wp2_with fail
    go_ret3
    exact ⟨.slice none 0 0, by rw [HS.out]; rfl, hw, by rw [HS.out]; exact rdv_nil _ _⟩
end Go.Proofs.YteocmmejfnmjcaaGreatDoor
namespace Go.Proofs.YteocmmejfnmjcaaGreatDoor
open Go.RowKit

theorem run_many2 {P : Program} {α : Type} [Dat α] {t ty e : TypeId} (hP : ElemOk P t e (Dat.n α)) {w0 : World} {O : Nat → Prop} {v x : Value} {l m : List α}
    (hown : Own e w0 O v l) (hx : Rdv w0 (fun k => O k ∨ v.ownBlock = some k) x m) (hO : ∀ k, O k → k < w0.heap.size) (hlen : l.length + m.length ≤ 1000000000) :
    ∃ v' w', (Builtin.append_ #[t, t] ty #[v, x]).run P w0 = .ok v' w' ∧ Own e w' O v' (l ++ m) ∧ Chg (OwnB v) w0 w' ∧ (∀ k, v'.ownBlock = some k → v.ownBlock = some k ∨ w0.heap.size ≤ k) := by
  obtain ⟨a, cap, rfl, c1, c2, hel⟩ := rdv_slice hx
  rcases Nat.eq_zero_or_pos m.length with h0 | hpos
  · have : m = [] := List.eq_nil_of_length_eq_zero h0
    subst this
    refine ⟨v, w0, ?_, by rw [List.append_nil]; exact hown, Chg.refl _ _, fun k hk => .inl hk⟩
    obtain ⟨xs, hrow, _⟩ := hown
    exact run_append_empty hP hrow a cap
  · obtain ⟨b, off, rfl⟩ : ∃ b off, a = some ⟨b, off, none⟩ := by
      obtain ⟨b, off, es, ha, _⟩ := hel 0 m[0] (by simp [hpos])
      exact ⟨b, off, ha⟩
    obtain ⟨i, z, hi, hz, hsz, hzs, hby⟩ := hP.info
    obtain ⟨xs, hrow, hb, hels⟩ := id hown
    obtain ⟨news, n1, n2, n3, n4⟩ := elems_cells hel m.length (Nat.le_refl _)
    have hpos' := Dat.pos (α := α)
    have hcells : ∀ j u, news[j]? = some u → w0.cell? ((⟨b, off, none⟩ : Addr).add j) = some u := by
      intro j u hj
      have e1 : (⟨b, off, none⟩ : Addr).add j = ⟨b, off + j, none⟩ := by unfold Addr.add; split <;> simp_all
      rw [e1]
      exact n2 j u hj
    have hbound : (l.length + m.length) * i.bytes ≤ 140737488355328 := by
      have := Nat.mul_le_mul hlen hby
      omega
    obtain ⟨v', w', hrun, hown', hgrow, hnil⟩ := run_append_own (P := P) w0 0 t ty e i z (Dat.n α) i.bytes hP.ht hi hz hsz rfl hzs hpos' v l.length xs hrow
      ⟨b, off, none⟩ m.length cap news n1 hcells n3 (by unfold maxLen; omega) hbound (Nat.zero_le _)
    obtain ⟨kb, hkb, hkb'⟩ := append_block (P := P) w0 0 t ty e i z (Dat.n α) i.bytes hP.ht hi hz hsz rfl v l.length xs hrow
      ⟨b, off, none⟩ m.length cap news n1 hcells n3 (by unfold maxLen; omega) hbound (by omega) hrun
    have hc : Chg (OwnB v) w0 w' := Chg.of_grown hgrow
    have hsub : ∀ k, k < w0.heap.size → (O k ∨ v'.ownBlock = some k) → (O k ∨ v.ownBlock = some k) := by
      rintro k hk (h | h)
      · exact .inl h
      · rw [hkb] at h
        injection h with h
        subst h
        rcases hkb' with h | h
        · exact .inr h
        · omega
    refine ⟨v', w', hrun, ⟨xs ++ news, ?_, ?_, ?_⟩, hc, fun k hk => by rw [hkb] at hk; injection hk with hk; subst hk; exact hkb'.imp_right (fun h => Nat.le_of_eq h.symm)⟩
    · rw [List.length_append]; exact hown'
    · intro k hk ho
      rw [hkb] at hk
      injection hk with hk
      subst hk
      rcases hkb' with h | h
      · exact hb _ h ho
      · exact absurd (hO _ ho) (by omega)
    · intro j y hj
      have hxl : xs.length = l.length * Dat.n α := hrow.1
      rcases Nat.lt_or_ge j l.length with hjl | hjl
      · rw [List.getElem?_append_left hjl] at hj
        have hle : j * Dat.n α + Dat.n α ≤ xs.length := by rw [hxl, ← Nat.succ_mul]; exact Nat.mul_le_mul_right _ hjl
        rw [List.drop_append_of_le_length (by omega), List.take_append_of_le_length (by rw [List.length_drop]; omega)]
        exact Dat.keep (hels j y hj) hc (fun k _ hk => .inr hk) hsub
      · rw [List.getElem?_append_right hjl] at hj
        have hjm := (List.getElem?_eq_some_iff.1 hj).1
        have e1 : (xs ++ news).drop (j * Dat.n α) = news.drop ((j - l.length) * Dat.n α) := by
          have e2 : j * Dat.n α = xs.length + (j - l.length) * Dat.n α := by rw [hxl, ← Nat.add_mul]; congr 1; omega
          rw [e2, List.drop_append]
          simp
        rw [e1]
        exact Dat.keep (n4 _ y hjm hj) hc (fun k _ hk => .inr hk) hsub

theorem wpList_many2 {P : Program} {ops : Array Oper} {rest : List Oper} {o : Oper} {a : Act} {Q : Exit → Act → World → Prop} (hgd : o.guard = none) (s x : Operand) (t : TypeId)
    (ho : o.op = .call { callee := .builtin .append, args := #[s, x], argTypes := #[t, t] }) {α : Type} [Dat α] {e : TypeId} (hP : ElemOk P t e (Dat.n α)) {w0 : World} {O : Nat → Prop} {v u : Value} {l m : List α}
    (hs : a.eval s = v) (hx : a.eval x = u) (hown : Own e w0 O v l) (hu : Rdv w0 (fun k => O k ∨ v.ownBlock = some k) u m) (hO : ∀ k, O k → k < w0.heap.size) (hlen : l.length + m.length ≤ 1000000000)
    (h : ∀ v' w', Own e w' O v' (l ++ m) → Chg (OwnB v) w0 w' → (∀ k, v'.ownBlock = some k → v.ownBlock = some k ∨ w0.heap.size ≤ k) → wpList P ops Q rest (a.put o.dst v') w') :
    wpList P ops Q (o :: rest) a w0 := by
  refine wpList_plain hgd fun K hK => ?_
  obtain ⟨v', w', hrun, h1, h2, h3⟩ := run_many2 (ty := o.type) hP hown hu hO hlen
  unfold Oper.wp execOp
  simp only [ho, resolve, invoke, builtin, Sem.run_bind, Sem.run_pure, Result.andThen_ok, List.map_toArray, List.map_cons, List.map_nil, hs, hx, hrun]
  exact hK _ _ (h v' w' h1 h2 h3)

/-- v owns its row, which has come since w0; its elements may lie wherever -/
structure OwnN {α : Type} [Dat α] (e : TypeId) (w0 wr : World) (v : Value) (l : List α) : Prop where
  own : Own e wr Never v l
  new : ∀ k, v.ownBlock = some k → w0.heap.size ≤ k
  chg : Chg Never w0 wr
theorem ownN_nil {α : Type} [Dat α] (e : TypeId) {w0 wr : World} (h : Chg Never w0 wr) : OwnN e w0 wr (.slice none 0 0) ([] : List α) :=
  ⟨own_nil _ _ _, fun k hk => by simp [Value.ownBlock] at hk, h⟩
theorem OwnN.step {α : Type} [Dat α] {e : TypeId} {w0 wr w' : World} {v v' : Value} {l l' : List α} (h : OwnN e w0 wr v l) (hown : Own e w' Never v' l') (hc : Chg (OwnB v) wr w') (hk : ∀ k, v'.ownBlock = some k → v.ownBlock = some k ∨ wr.heap.size ≤ k) : OwnN e w0 w' v' l' :=
  ⟨hown, fun k hk' => (hk k hk').elim (h.new k) (fun hh => Nat.le_trans h.chg.size hh), h.chg.trans' hc (fun i hi hh => absurd (h.new i hh) (by omega))⟩
theorem OwnN.step1 {α : Type} [Dat α] {e : TypeId} {w0 wr w' : World} {v v' : Value} {l l' : List α} (h : OwnN e w0 wr v l) (hown : Own e w' Never v' l') (hc : Chg (OwnB v) wr w') (hk : ∃ k, v'.ownBlock = some k ∧ (v.ownBlock = some k ∨ wr.heap.size ≤ k)) : OwnN e w0 w' v' l' :=
  h.step hown hc (fun k hk' => by
    obtain ⟨j, h1, h2⟩ := hk
    rw [h1] at hk'
    injection hk' with hk'
    subst hk'
    exact h2)
theorem OwnN.never {α : Type} [Dat α] {e : TypeId} {w0 wr w' : World} {v : Value} {l : List α} (h : OwnN e w0 wr v l) (hc : Chg Never wr w') : OwnN e w0 w' v l := ⟨h.own.never hc, h.new, h.chg.trans hc⟩
/-- what was there at the beginning does not lie in the row -/
theorem OwnN.away {α β : Type} [Dat α] [Dat β] {e : TypeId} {w0 wr : World} {v u : Value} {l : List α} {x : β} (h : OwnN e w0 wr v l) (hu : Rdv w0 Never u x) : Rdv wr (fun k => Never k ∨ v.ownBlock = some k) u x :=
  (hu.sub (O' := fun k => Never k ∨ v.ownBlock = some k) (fun k hk hh => by
    rcases hh with hh | hh
    · exact hh
    · exact absurd (h.new k hh) (by omega))).never h.chg
end Go.Proofs.YteocmmejfnmjcaaGreatDoor
namespace Go.Proofs.YteocmmejfnmjcaaGreatDoor
open Go.RowKit

theorem elemOk_file : ElemOk Tryz.prog 22 76 2 := elemOk_of Tryz.underlying22 (z := .agg #[.string ⟨#[]⟩, .slice none 0 0]) (b := 40) (by kernel_rfl) rfl (by decide)
theorem size_file (w : World) : (sizeOf (Tryz.prog.elem 22)).run Tryz.prog w = .ok 2 w := by kernel_rfl

set_option maxHeartbeats 1000000 in
set_option maxRecDepth 100000 in
theorem refDrop_any (t : List File) (k : Nat) (v : Value) (w : World) (h : Rdv w Never v t) (hk : k < t.length) (hl : t.length ≤ 1000000) :
    Calls Tryz.prog 35 #[v, .int .i64 k] w fun e w' => ∃ r, e = .returned r ∧ Chg Never w w' ∧ Rdv w' Never r (dropAt t k) := by
  obtain ⟨a, cap, rfl, h1, h2, _⟩ := rdv_slice h
  unfold maxLen at h2
  obtain ⟨sb1, u0, u1, hrunH, hsub1⟩ := slice_gen (P := Tryz.prog) (t := 22) (by kernel_rfl) size_file h 0 k (Nat.zero_le _) (by omega)
  have hrunH := fun (wx : World) => hrunH k wx rfl rfl
  clear u0 u1
  rw [Nat.sub_zero, Nat.sub_zero] at hrunH hsub1
  rw [List.drop_zero] at hsub1
  obtain ⟨sb2, u0, hrunL, u1, hsub2⟩ := slice_gen (P := Tryz.prog) (t := 22) (by kernel_rfl) size_file h (k + 1) t.length (by omega) (Nat.le_refl _)
  have hrunL := fun (wx : World) => hrunL ((k : Int) + 1) wx (by push_cast; rfl) rfl
  clear u0 u1
  rw [List.take_of_length_le (by rw [List.length_drop]; omega)] at hsub2
  have hn := ownN_nil (α := File) 76 (Chg.refl Never w)
  have hle1 : ([] : List File).length + (t.take k).length ≤ 1000000000 := by simp; omega
  have hle2 : ([] ++ t.take k).length + (t.drop (k + 1)).length ≤ 1000000000 := by simp; omega
  go_enter Tryz.func35, Tryz.ntmps35
  go_wp2_with (first
    | (at_builtin; refine wpList_many2 (by rfl) _ _ 22 (by rfl) elemOk_file (O := Never) (l := []) (m := t.take k) (by rfl) (by rfl) hn.own (hn.away hsub1) (fun _ h => h.elim) hle1 ?_; intro v1 w1 hw1 hd1 hk1; have hn1 := hn.step hw1 hd1 hk1; clear hw1 hd1 hk1 hn; obtain ⟨s1, n1, c1, rfl⟩ := own_isSlice hn1.own)
    | (at_builtin; refine wpList_many2 (by rfl) _ _ 22 (by rfl) elemOk_file (O := Never) (l := [] ++ t.take k) (m := t.drop (k + 1)) (by rfl) (by rfl) hn1.own (hn1.away hsub2) (fun _ h => h.elim) hle2 ?_; intro v2 w2 hw2 hd2 hk2; have hn2 := hn1.step hw2 hd2 hk2; clear hw2 hd2 hk2 hn1; obtain ⟨s2, n2, c2, rfl⟩ := own_isSlice hn2.own))
  go_ret
  exact ⟨_, rfl, hn2.chg, hn2.own.rdv.sub (fun _ _ h => h.elim)⟩

theorem putLoop_step (f x : File) (done : Bool) (r : List File) : putLoop f done (x :: r) = (if !done && leqB f.path x.path then [f] else []) ++ (if x.path = f.path then [] else [x]) ++ putLoop f (done || leqB f.path x.path) r := by rw [putLoop]
set_option maxHeartbeats 2000000 in
set_option maxRecDepth 100000 in
theorem refPut_any (t : List File) (f : File) (v fv : Value) (w : World) (h : Rdv w Never v t) (hf : Rdv w Never fv f.lines) (hp : f.path.size ≤ maxLen) (hl : t.length ≤ 1000000) :
    Calls Tryz.prog 34 #[v, .agg #[.string f.path, fv]] w fun e w' => ∃ r, e = .returned r ∧ Chg Never w w' ∧ Rdv w' Never r (putLoop f false t) := by
  obtain ⟨a, cap, rfl, h1, h2, _⟩ := rdv_slice h
  obtain ⟨fa, fcap, rfl, _, _, _⟩ := rdv_slice hf
  unfold maxLen at h2
  have hA : Chg Never w (w.alloc (.cells #[.string f.path, .slice fa f.lines.length fcap] 76)) := (Chg.refl Never w).alloc _
  have b0 : (w.alloc (.cells #[.string f.path, .slice fa f.lines.length fcap] 76)).cell? ⟨w.heap.size, 0, none⟩ = some (.string f.path) := by simp only [World.cell?]; rw [heap_alloc_new]; rfl
  have b1 : (w.alloc (.cells #[.string f.path, .slice fa f.lines.length fcap] 76)).cell? ⟨w.heap.size, 1, none⟩ = some (.slice fa f.lines.length fcap) := by simp only [World.cell?]; rw [heap_alloc_new]; rfl
  go_enter Tryz.func34, Tryz.ntmps34
  go_wp2_with fail
  generalize w.alloc (.cells #[.string f.path, .slice fa f.lines.length fcap] 76) = w1 at hA b0 b1 ⊢
  generalize w.heap.size = B at b0 b1 ⊢
  have h := h.never hA
  have hf := hf.never hA
  obtain ⟨_, _, hav, _, _, h3⟩ := rdv_slice h
  simp only [Value.slice.injEq, true_and] at hav
  obtain ⟨rfl, rfl⟩ := hav
  go_loopw [5, 6, 7] (fun o dn i wr => ∃ (k : Nat) (done : Bool) (L : List File), k ≤ t.length ∧ i = .int .i64 k ∧ dn = .bool done ∧ OwnN 76 w1 wr o L ∧ L.length ≤ 2 * k ∧ Hid (L ++ putLoop f done (t.drop k) = putLoop f false t)) (fun _ _ i _ => t.length - (intOf i).toNat)
  case atStart => exact ⟨0, false, [], Nat.zero_le _, rfl, rfl, ownN_nil _ (Chg.refl _ _), Nat.le_refl _, rfl⟩
  case round =>
    obtain ⟨k, done, L, hk, rfl, rfl, hn, hL, hP⟩ := hrel
    have q0 := hn.chg.cellNever b0
    have q1 := hn.chg.cellNever b1
    by_cases hlt : k < t.length
    · obtain ⟨x, hx⟩ : ∃ x, t[k]? = some x := ⟨t[k], by simp [hlt]⟩
      obtain ⟨b, off, lv, rfl, _, _, c0, c1, hps, hlv⟩ := elems_file h3 hx
      obtain ⟨la, lcap, rfl, _, _, _⟩ := rdv_slice hlv
      have C0 := Lib.hid c0
      have C1 := Lib.hid c1
      have c0 := hn.chg.cellNever c0
      have c1 := hn.chg.cellNever c1
      have HD := Lib.hid (drop_eq hx)
      clear hx
      cases done with
      | true =>
        by_cases e : x.path = f.path
        · have HN : Hid (L ++ putLoop f true (t.drop (k + 1)) = putLoop f false t) := by
            rw [Hid, ← hP.out, HD.out, putLoop_step]; simp [e]
          have t1 : (x.path.toList == f.path.toList) = true := by rw [e]; exact beq_self_eq_true _
          clear e hP
          go_wp2_with fail
          go_quiet (fail)
          generalize hwqw5 : World.drewN wr _ = w5
          have hn5 := hwqw5 ▸ hn.never ((Chg.refl Never wr).drewN _)
          clear hwqw5 hn
          clear c0 c1 q0 q1
          have c0 := (hn5).chg.cellNever C0.out
          have c1 := (hn5).chg.cellNever C1.out
          have q0 := (hn5).chg.cellNever b0
          have q1 := (hn5).chg.cellNever b1
          go_wp2_with fail
          go_quiet (fail)
          generalize hwqw7 : World.drewN w5 _ = w7
          have hn7 := hwqw7 ▸ hn5.never ((Chg.refl Never w5).drewN _)
          clear hwqw7 hn5
          clear c0 c1 q0 q1
          have c0 := (hn7).chg.cellNever C0.out
          have c1 := (hn7).chg.cellNever C1.out
          have q0 := (hn7).chg.cellNever b0
          have q1 := (hn7).chg.cellNever b1
          go_wp2_with fail
          go_roundw
          case rel => exact ⟨k + 1, true, L, by omega, by go_num, rfl, hn7, by first | omega | (simp; omega), HN⟩
          case measure => simp [intOf] <;> omega
        · have HN : Hid ((L ++ [x]) ++ putLoop f true (t.drop (k + 1)) = putLoop f false t) := by
            rw [Hid, ← hP.out, HD.out, putLoop_step]; simp [e]
          have t1 := str_beq_false e
          clear e hP
          go_wp2_with fail
          go_quiet (fail)
          generalize hwqw5 : World.drewN wr _ = w5
          have hn5 := hwqw5 ▸ hn.never ((Chg.refl Never wr).drewN _)
          clear hwqw5 hn
          clear c0 c1 q0 q1
          have c0 := (hn5).chg.cellNever C0.out
          have c1 := (hn5).chg.cellNever C1.out
          have q0 := (hn5).chg.cellNever b0
          have q1 := (hn5).chg.cellNever b1
          go_wp2_with fail
          go_quiet (fail)
          generalize hwqw7 : World.drewN w5 _ = w7
          have hn7 := hwqw7 ▸ hn5.never ((Chg.refl Never w5).drewN _)
          clear hwqw7 hn5
          clear c0 c1 q0 q1
          have c0 := (hn7).chg.cellNever C0.out
          have c1 := (hn7).chg.cellNever C1.out
          have q0 := (hn7).chg.cellNever b0
          have q1 := (hn7).chg.cellNever b1
          have hyw8 : Dat.rd _ (fun k => Never k ∨ _ = some k) _ x := ⟨_, rfl, hps, hn7.away hlv⟩
          go_wp2_with (at_builtin; refine wpList_push (by rfl) _ _ 22 (by rfl) elemOk_file (O := Never) (l := L) (y := x) (by rfl) (by rfl) (by rfl) hn7.own hyw8 (fun _ h => h.elim) (by first | omega | (simp; omega)) ?_; intro vw8 w8 hown2 hc2 hk2; have hn8 := hn7.step1 hown2 hc2 hk2; clear hown2 hc2 hk2 hn7 hyw8; obtain ⟨vaw8, vnw8, vcw8, rfl⟩ := own_isSlice hn8.own)
          clear c0 c1 q0 q1
          have c0 := (hn8).chg.cellNever C0.out
          have c1 := (hn8).chg.cellNever C1.out
          have q0 := (hn8).chg.cellNever b0
          have q1 := (hn8).chg.cellNever b1
          go_wp2_with fail
          go_roundw
          case rel => exact ⟨k + 1, true, L ++ [x], by omega, by go_num, rfl, hn8, by first | omega | (simp; omega), HN⟩
          case measure => simp [intOf] <;> omega
      | false =>
        rcases less_tri x.path f.path with g | g | g
        · have HN : Hid ((L ++ [x]) ++ putLoop f false (t.drop (k + 1)) = putLoop f false t) := by
            have e1 : leqB f.path x.path = false := by
              rw [Bool.eq_false_iff]; intro e
              rw [leqB_true.1 e] at g; cases g
            rw [Hid, ← hP.out, HD.out, putLoop_step, e1]; simp [less_ne g]
          have a1 : Op.bytesLess f.path.toList x.path.toList = false := less_asymm g
          have a2 := str_beq_false (less_ne g).symm
          have t1 := str_beq_false (less_ne g)
          clear g hP
          go_wp2_with fail
          go_quiet (fail)
          generalize hwqw5 : World.drewN wr _ = w5
          have hn5 := hwqw5 ▸ hn.never ((Chg.refl Never wr).drewN _)
          clear hwqw5 hn
          clear c0 c1 q0 q1
          have c0 := (hn5).chg.cellNever C0.out
          have c1 := (hn5).chg.cellNever C1.out
          have q0 := (hn5).chg.cellNever b0
          have q1 := (hn5).chg.cellNever b1
          go_wp2_with fail
          go_quiet (fail)
          generalize hwqw7 : World.drewN w5 _ = w7
          have hn7 := hwqw7 ▸ hn5.never ((Chg.refl Never w5).drewN _)
          clear hwqw7 hn5
          clear c0 c1 q0 q1
          have c0 := (hn7).chg.cellNever C0.out
          have c1 := (hn7).chg.cellNever C1.out
          have q0 := (hn7).chg.cellNever b0
          have q1 := (hn7).chg.cellNever b1
          have hyw8 : Dat.rd _ (fun k => Never k ∨ _ = some k) _ x := ⟨_, rfl, hps, hn7.away hlv⟩
          go_wp2_with (at_builtin; refine wpList_push (by rfl) _ _ 22 (by rfl) elemOk_file (O := Never) (l := L) (y := x) (by rfl) (by rfl) (by rfl) hn7.own hyw8 (fun _ h => h.elim) (by first | omega | (simp; omega)) ?_; intro vw8 w8 hown2 hc2 hk2; have hn8 := hn7.step1 hown2 hc2 hk2; clear hown2 hc2 hk2 hn7 hyw8; obtain ⟨vaw8, vnw8, vcw8, rfl⟩ := own_isSlice hn8.own)
          clear c0 c1 q0 q1
          have c0 := (hn8).chg.cellNever C0.out
          have c1 := (hn8).chg.cellNever C1.out
          have q0 := (hn8).chg.cellNever b0
          have q1 := (hn8).chg.cellNever b1
          go_wp2_with fail
          go_roundw
          case rel => exact ⟨k + 1, false, L ++ [x], by omega, by go_num, rfl, hn8, by first | omega | (simp; omega), HN⟩
          case measure => simp [intOf] <;> omega
        · have HN : Hid ((L ++ [f]) ++ putLoop f true (t.drop (k + 1)) = putLoop f false t) := by
            have e1 : leqB f.path x.path = true := leqB_true.2 (by rw [g]; exact less_irrefl _)
            rw [Hid, ← hP.out, HD.out, putLoop_step, e1]; simp [g]
          have a1 : Op.bytesLess f.path.toList x.path.toList = false := by rw [g]; exact bl_irrefl _
          have a2 : (f.path.toList == x.path.toList) = true := by rw [g]; exact beq_self_eq_true _
          have t1 : (x.path.toList == f.path.toList) = true := by rw [g]; exact beq_self_eq_true _
          clear g hP
          go_wp2_with fail
          go_quiet (fail)
          generalize hwqw5 : World.drewN wr _ = w5
          have hn5 := hwqw5 ▸ hn.never ((Chg.refl Never wr).drewN _)
          clear hwqw5 hn
          clear c0 c1 q0 q1
          have c0 := (hn5).chg.cellNever C0.out
          have c1 := (hn5).chg.cellNever C1.out
          have q0 := (hn5).chg.cellNever b0
          have q1 := (hn5).chg.cellNever b1
          have hyw6 : Dat.rd _ (fun k => Never k ∨ _ = some k) _ f := ⟨_, rfl, hp, hn5.away hf⟩
          go_wp2_with (at_builtin; refine wpList_push (by rfl) _ _ 22 (by rfl) elemOk_file (O := Never) (l := L) (y := f) (by rfl) (by rfl) (by rfl) hn5.own hyw6 (fun _ h => h.elim) (by first | omega | (simp; omega)) ?_; intro vw6 w6 hown2 hc2 hk2; have hn6 := hn5.step1 hown2 hc2 hk2; clear hown2 hc2 hk2 hn5 hyw6; obtain ⟨vaw6, vnw6, vcw6, rfl⟩ := own_isSlice hn6.own)
          clear c0 c1 q0 q1
          have c0 := (hn6).chg.cellNever C0.out
          have c1 := (hn6).chg.cellNever C1.out
          have q0 := (hn6).chg.cellNever b0
          have q1 := (hn6).chg.cellNever b1
          go_wp2_with fail
          go_quiet (fail)
          generalize hwqw7 : World.drewN w6 _ = w7
          have hn7 := hwqw7 ▸ hn6.never ((Chg.refl Never w6).drewN _)
          clear hwqw7 hn6
          clear c0 c1 q0 q1
          have c0 := (hn7).chg.cellNever C0.out
          have c1 := (hn7).chg.cellNever C1.out
          have q0 := (hn7).chg.cellNever b0
          have q1 := (hn7).chg.cellNever b1
          go_wp2_with fail
          go_roundw
          case rel => exact ⟨k + 1, true, L ++ [f], by omega, by go_num, rfl, hn7, by first | omega | (simp; omega), HN⟩
          case measure => simp [intOf] <;> omega
        · have HN : Hid ((L ++ [f] ++ [x]) ++ putLoop f true (t.drop (k + 1)) = putLoop f false t) := by
            have e1 : leqB f.path x.path = true := leqB_true.2 (less_asymm g)
            rw [Hid, ← hP.out, HD.out, putLoop_step, e1]; simp [(less_ne g).symm]
          have a1 : Op.bytesLess f.path.toList x.path.toList = true := g
          have t1 := str_beq_false (less_ne g).symm
          clear g hP
          go_wp2_with fail
          go_quiet (fail)
          generalize hwqw5 : World.drewN wr _ = w5
          have hn5 := hwqw5 ▸ hn.never ((Chg.refl Never wr).drewN _)
          clear hwqw5 hn
          clear c0 c1 q0 q1
          have c0 := (hn5).chg.cellNever C0.out
          have c1 := (hn5).chg.cellNever C1.out
          have q0 := (hn5).chg.cellNever b0
          have q1 := (hn5).chg.cellNever b1
          have hyw6 : Dat.rd _ (fun k => Never k ∨ _ = some k) _ f := ⟨_, rfl, hp, hn5.away hf⟩
          go_wp2_with (at_builtin; refine wpList_push (by rfl) _ _ 22 (by rfl) elemOk_file (O := Never) (l := L) (y := f) (by rfl) (by rfl) (by rfl) hn5.own hyw6 (fun _ h => h.elim) (by first | omega | (simp; omega)) ?_; intro vw6 w6 hown2 hc2 hk2; have hn6 := hn5.step1 hown2 hc2 hk2; clear hown2 hc2 hk2 hn5 hyw6; obtain ⟨vaw6, vnw6, vcw6, rfl⟩ := own_isSlice hn6.own)
          clear c0 c1 q0 q1
          have c0 := (hn6).chg.cellNever C0.out
          have c1 := (hn6).chg.cellNever C1.out
          have q0 := (hn6).chg.cellNever b0
          have q1 := (hn6).chg.cellNever b1
          go_wp2_with fail
          go_quiet (fail)
          generalize hwqw7 : World.drewN w6 _ = w7
          have hn7 := hwqw7 ▸ hn6.never ((Chg.refl Never w6).drewN _)
          clear hwqw7 hn6
          clear c0 c1 q0 q1
          have c0 := (hn7).chg.cellNever C0.out
          have c1 := (hn7).chg.cellNever C1.out
          have q0 := (hn7).chg.cellNever b0
          have q1 := (hn7).chg.cellNever b1
          have hyw8 : Dat.rd _ (fun k => Never k ∨ _ = some k) _ x := ⟨_, rfl, hps, hn7.away hlv⟩
          go_wp2_with (at_builtin; refine wpList_push (by rfl) _ _ 22 (by rfl) elemOk_file (O := Never) (l := L ++ [f]) (y := x) (by rfl) (by rfl) (by rfl) hn7.own hyw8 (fun _ h => h.elim) (by first | omega | (simp; omega)) ?_; intro vw8 w8 hown2 hc2 hk2; have hn8 := hn7.step1 hown2 hc2 hk2; clear hown2 hc2 hk2 hn7 hyw8; obtain ⟨vaw8, vnw8, vcw8, rfl⟩ := own_isSlice hn8.own)
          clear c0 c1 q0 q1
          have c0 := (hn8).chg.cellNever C0.out
          have c1 := (hn8).chg.cellNever C1.out
          have q0 := (hn8).chg.cellNever b0
          have q1 := (hn8).chg.cellNever b1
          go_wp2_with fail
          go_roundw
          case rel => exact ⟨k + 1, true, L ++ [f] ++ [x], by omega, by go_num, rfl, hn8, by first | omega | (simp; omega), HN⟩
          case measure => simp [intOf] <;> omega
    · have hP2 := hP.out
      rw [List.drop_eq_nil_of_le (by omega), putLoop] at hP2
      have HP := Lib.hid hP2
      clear hP hP2
      cases done with
      | true =>
        have HE : Hid (L = putLoop f false t) := by rw [Hid, ← HP.out]; simp
        go_wp2_with fail
        go_ret
        exact ⟨_, rfl, hA.trans hn.chg, by rw [← HE.out]; exact hn.own.rdv.sub (fun _ _ h => h.elim)⟩
      | false =>
        have HE : Hid (L ++ [f] = putLoop f false t) := by rw [Hid, ← HP.out]; simp
        have hyf : Dat.rd wr (fun k => Never k ∨ u5.ownBlock = some k) [.string f.path, .slice fa f.lines.length fcap] f := ⟨_, rfl, hp, hn.away hf⟩
        go_wp2_with (at_builtin; refine wpList_push (by rfl) _ _ 22 (by rfl) elemOk_file (O := Never) (l := L) (y := f) (by rfl) (by rfl) (by rfl) hn.own hyf (fun _ h => h.elim) (by omega) ?_; intro v' w2 hown2 hc2 hk2; have hn2 := hn.step1 hown2 hc2 hk2; clear hown2 hc2 hk2 hn hyf; obtain ⟨va, vn, vc, rfl⟩ := own_isSlice hn2.own)
        go_wp2_with fail
        go_ret
        exact ⟨_, rfl, hA.trans hn2.chg, by rw [← HE.out]; exact hn2.own.rdv.sub (fun _ _ h => h.elim)⟩
end Go.Proofs.YteocmmejfnmjcaaGreatDoor
namespace Go.Proofs.YteocmmejfnmjcaaGreatDoor
open Go.RowKit

def doneR (there : Bool) (L : List ByteArray) (c : Change) : List ByteArray × Bool × Int :=
  if c.what = 2 ∧ there = true then ([], false, 6)
  else if c.what ≠ 2 ∧ there = false then ([], false, 4)
  else if (strict L c.hunks).2.2 ≠ 0 then ([], false, (strict L c.hunks).2.2)
  else if c.what = 3 ∧ (strict L c.hunks).1 ≠ [] then ([], false, 6)
  else ((strict L c.hunks).1, decide (c.what ≠ 3), 0)
theorem done_step (x : Option (List ByteArray)) (c : Change) : stepOf x c = (if (doneR x.isSome (x.getD []) c).2.1 = true then some (doneR x.isSome (x.getD []) c).1 else none, (doneR x.isSome (x.getD []) c).2.2) := by
  unfold stepOf doneR
  by_cases h1 : c.what = 2 ∧ x.isSome = true
  · rw [if_pos h1, if_pos h1]; rfl
  · rw [if_neg h1, if_neg h1]
    by_cases h2 : c.what ≠ 2 ∧ x.isSome = false
    · rw [if_pos h2, if_pos h2]; rfl
    · rw [if_neg h2, if_neg h2]
      by_cases h3 : (strict (x.getD []) c.hunks).2.2 ≠ 0
      · rw [if_pos h3, if_pos h3]; rfl
      · rw [if_neg h3, if_neg h3]
        by_cases h4 : c.what = 3
        · by_cases h5 : (strict (x.getD []) c.hunks).1 = []
          · simp [h4, h5]
          · simp [h4, h5]
        · simp [h4]
theorem done_clash {there : Bool} {L : List ByteArray} {c : Change} (h : c.what = 2 ∧ there = true) : doneR there L c = ([], false, 6) := if_pos h
theorem done_none {there : Bool} {L : List ByteArray} {c : Change} (h : c.what ≠ 2 ∧ there = false) : doneR there L c = ([], false, 4) := by unfold doneR; rw [if_neg (fun g => h.1 g.1), if_pos h]
theorem done_bad {there : Bool} {L : List ByteArray} {c : Change} (h1 : ¬ (c.what = 2 ∧ there = true)) (h2 : ¬ (c.what ≠ 2 ∧ there = false)) (h : (strict L c.hunks).2.2 ≠ 0) : doneR there L c = ([], false, (strict L c.hunks).2.2) := by unfold doneR; rw [if_neg h1, if_neg h2, if_pos h]
theorem done_left {there : Bool} {L : List ByteArray} {c : Change} (h1 : ¬ (c.what = 2 ∧ there = true)) (h2 : ¬ (c.what ≠ 2 ∧ there = false)) (h : (strict L c.hunks).2.2 = 0) (g : c.what = 3 ∧ (strict L c.hunks).1 ≠ []) : doneR there L c = ([], false, 6) := by unfold doneR; rw [if_neg h1, if_neg h2, if_neg (by rw [h]; decide), if_pos g]
theorem done_good {there : Bool} {L : List ByteArray} {c : Change} (h1 : ¬ (c.what = 2 ∧ there = true)) (h2 : ¬ (c.what ≠ 2 ∧ there = false)) (h : (strict L c.hunks).2.2 = 0) (g : ¬ (c.what = 3 ∧ (strict L c.hunks).1 ≠ [])) : doneR there L c = ((strict L c.hunks).1, decide (c.what ≠ 3), 0) := by unfold doneR; rw [if_neg h1, if_neg h2, if_neg (by rw [h]; decide), if_neg g]
def DonePost (there : Bool) (L : List ByteArray) (c : Change) (w : World) (e : Ending) (w' : World) : Prop := ∃ r, e = .returned (.tuple #[r, .bool (doneR there L c).2.1, errV (doneR there L c).2.2]) ∧ Chg Never w w' ∧ Rdv w' (Old w.heap.size) r (doneR there L c).1
theorem donePost_bad {there : Bool} {L : List ByteArray} {c : Change} {w w' : World} {k : Int} (h : doneR there L c = ([], false, k)) (hc : Chg Never w w') : DonePost there L c w (.returned (.tuple #[.slice none 0 0, .bool false, errV k])) w' :=
  ⟨_, by rw [h], hc, by rw [h]; exact rdv_nil _ _⟩
theorem donePost_ok {there b : Bool} {L R : List ByteArray} {c : Change} {w w' : World} {r : Value} (h : doneR there L c = (R, b, 0)) (hc : Chg Never w w') (hr : Rdv w' (Old w.heap.size) r R) : DonePost there L c w (.returned (.tuple #[r, .bool b, .nilIface])) w' :=
  ⟨_, by rw [h]; rfl, hc, by rw [h]; exact hr⟩
set_option maxHeartbeats 2000000 in
set_option maxRecDepth 100000 in
theorem done_go (there : Bool) (L : List ByteArray) (wh : Int) (pa : ByteArray) (hs : List Hunk) (lv hv : Value) (w : World) (hL : Rdv w Never lv L) (hh : Rdv w Never hv hs) :
    Calls Tryz.prog 39 #[lv, .bool there, .agg #[.int .i64 wh, .string pa, hv]] w fun e w' => DonePost there L ⟨wh, pa, hs⟩ w e w' := by
  obtain ⟨a, cap, rfl, h1, h2, _⟩ := rdv_slice hh
  obtain ⟨la, lcap, rfl, _, _, _⟩ := rdv_slice hL
  by_cases k2 : wh = 2
  · subst k2
    obtain ⟨hA, b0, b1, b2⟩ := box1_change w 36 2 pa (.slice a hs.length cap) _ rfl
    cases there with
    | true =>
      have HG := Lib.hid (donePost_bad (w := w) (done_clash (L := L) (c := ⟨2, pa, hs⟩) ⟨rfl, rfl⟩) hA)
      go_enter Tryz.func39, Tryz.ntmps39
      go_wp2_with fail
      go_ret3
      have E := HG.out
      rw [errV_pos (by decide)] at E
      exact E
    | false =>
      have n1 : ¬ ((⟨2, pa, hs⟩ : Change).what = 2 ∧ false = true) := fun h => by cases h.2
      have n2 : ¬ ((⟨2, pa, hs⟩ : Change).what ≠ 2 ∧ false = false) := fun h => h.1 rfl
      by_cases z : (strict L hs).2.2 = 0
      · have HG : Hid (doneR false L ⟨2, pa, hs⟩ = ((strict L hs).1, true, 0)) := done_good n1 n2 z (fun h => absurd (show (2 : Int) = 3 from h.1) (by decide))
        have ZS := Lib.hid z
        clear z n1 n2
        go_enter Tryz.func39, Tryz.ntmps39
        go_wp2_with fail
        generalize w.alloc (.cells #[.int .i64 2, .string pa, .slice a hs.length cap] 36) = wA at hA b0 b1 b2 ⊢
        refine (strict_any L hs _ _ _ (hL.never hA) (hh.never hA)).mono ?_
        rintro e w2 ⟨r, rfl, hc2, hr⟩
        have hw := hA.trans hc2
        have b0 := hc2.cellNever b0
        have hr := hr.sub (O' := Old w.heap.size) (fun k _ h => Nat.lt_of_lt_of_le h hA.size)
        clear hc2 b1 b2
        skip
        obtain ⟨ra, rc, rfl, _, _, _⟩ := rdv_slice hr
        rw [ZS.out, errV_zero]
        go_wp2_with fail
        go_quiet (fail)
        go_wp2_with fail
        go_ret3
        exact donePost_ok HG.out (hw.drewN _) (hr.never ((Chg.refl Never _).drewN _))
      · have HG := Lib.hid (done_bad n1 n2 z)
        have ZS := Lib.hid z
        clear z n1 n2
        go_enter Tryz.func39, Tryz.ntmps39
        go_wp2_with fail
        generalize w.alloc (.cells #[.int .i64 2, .string pa, .slice a hs.length cap] 36) = wA at hA b0 b1 b2 ⊢
        refine (strict_any L hs _ _ _ (hL.never hA) (hh.never hA)).mono ?_
        rintro e w2 ⟨r, rfl, hc2, hr⟩
        have hw := hA.trans hc2
        have b0 := hc2.cellNever b0
        have hr := hr.sub (O' := Old w.heap.size) (fun k _ h => Nat.lt_of_lt_of_le h hA.size)
        clear hc2 b1 b2
        skip
        obtain ⟨ra, rc, rfl, _, _, _⟩ := rdv_slice hr
        rw [errV_pos ZS.out]
        clear b0
        go_wp2_with fail
        go_ret3
        have E := donePost_bad HG.out hw
        rw [errV_pos ZS.out] at E
        exact E
  · have t2 : (wh == 2) = false := by simp [k2]
    have t2' : (wh != 2) = true := by simp [k2]
    obtain ⟨hA, b0, b1, b2⟩ := box1_change w 36 wh pa (.slice a hs.length cap) _ rfl
    cases there with
    | false =>
      have HG := Lib.hid (donePost_bad (w := w) (done_none (L := L) (c := ⟨wh, pa, hs⟩) ⟨k2, rfl⟩) hA)
      clear k2
      go_enter Tryz.func39, Tryz.ntmps39
      go_wp2_with fail
      go_ret3
      have E := HG.out
      rw [errV_pos (by decide)] at E
      exact E
    | true =>
      have n1 : ¬ ((⟨wh, pa, hs⟩ : Change).what = 2 ∧ true = true) := fun h => k2 h.1
      have n2 : ¬ ((⟨wh, pa, hs⟩ : Change).what ≠ 2 ∧ true = false) := fun h => by cases h.2
      by_cases z : (strict L hs).2.2 = 0
      · have ZS := Lib.hid z
        by_cases k3 : wh = 3
        · subst k3
          by_cases h0 : (strict L hs).1 = []
          · have HG : Hid (doneR true L ⟨3, pa, hs⟩ = ([], false, 0)) := (done_good n1 n2 z (fun h => h.2 h0)).trans (by rw [show (strict L (⟨3, pa, hs⟩ : Change).hunks).1 = [] from h0]; rfl)
            have H0 := Lib.hid h0
            clear z n1 n2 k2 h0 t2 t2'
            go_enter Tryz.func39, Tryz.ntmps39
            go_wp2_with fail
            generalize w.alloc (.cells #[.int .i64 3, .string pa, .slice a hs.length cap] 36) = wA at hA b0 b1 b2 ⊢
            refine (strict_any L hs _ _ _ (hL.never hA) (hh.never hA)).mono ?_
            rintro e w2 ⟨r, rfl, hc2, hr⟩
            have hw := hA.trans hc2
            have b0 := hc2.cellNever b0
            have hr := hr.sub (O' := Old w.heap.size) (fun k _ h => Nat.lt_of_lt_of_le h hA.size)
            clear hc2 b1 b2
            rw [H0.out] at hr
            obtain ⟨ra, rc, rfl, _, _, _⟩ := rdv_slice hr
            rw [ZS.out, errV_zero]
            go_wp2_with fail
            go_quiet (fail)
            go_wp2_with fail
            go_ret3
            exact donePost_ok HG.out (hw.drewN _) (hr.never ((Chg.refl Never _).drewN _))
          · have HG := Lib.hid (done_left n1 n2 z ⟨rfl, h0⟩)
            have hpos : 0 < (strict L hs).1.length := List.length_pos_iff.2 h0
            clear z n1 n2 k2 h0 t2 t2'
            go_enter Tryz.func39, Tryz.ntmps39
            go_wp2_with fail
            generalize w.alloc (.cells #[.int .i64 3, .string pa, .slice a hs.length cap] 36) = wA at hA b0 b1 b2 ⊢
            refine (strict_any L hs _ _ _ (hL.never hA) (hh.never hA)).mono ?_
            rintro e w2 ⟨r, rfl, hc2, hr⟩
            have hw := hA.trans hc2
            have b0 := hc2.cellNever b0
            have hr := hr.sub (O' := Old w.heap.size) (fun k _ h => Nat.lt_of_lt_of_le h hA.size)
            clear hc2 b1 b2
            skip
            obtain ⟨ra, rc, rfl, _, _, _⟩ := rdv_slice hr
            rw [ZS.out, errV_zero]
            go_wp2_with fail
            all_goals first | (go_ret3; have E := donePost_bad HG.out hw; rw [errV_pos (by decide)] at E; exact E) | skip
        · have t3 : (wh == 3) = false := by simp [k3]
          have HG : Hid (doneR true L ⟨wh, pa, hs⟩ = ((strict L hs).1, wh != 3, 0)) := (done_good n1 n2 z (fun h => k3 h.1)).trans (by rw [show decide ((⟨wh, pa, hs⟩ : Change).what ≠ 3) = true from decide_eq_true k3, show (wh != 3) = true by simp [k3]])
          clear z n1 n2 k2 k3
          go_enter Tryz.func39, Tryz.ntmps39
          go_wp2_with fail
          generalize w.alloc (.cells #[.int .i64 wh, .string pa, .slice a hs.length cap] 36) = wA at hA b0 b1 b2 ⊢
          refine (strict_any L hs _ _ _ (hL.never hA) (hh.never hA)).mono ?_
          rintro e w2 ⟨r, rfl, hc2, hr⟩
          have hw := hA.trans hc2
          have b0 := hc2.cellNever b0
          have hr := hr.sub (O' := Old w.heap.size) (fun k _ h => Nat.lt_of_lt_of_le h hA.size)
          clear hc2 b1 b2
          skip
          obtain ⟨ra, rc, rfl, _, _, _⟩ := rdv_slice hr
          rw [ZS.out, errV_zero]
          go_wp2_with fail
          go_quiet (fail)
          go_wp2_with fail
          go_ret3
          exact donePost_ok HG.out (hw.drewN _) (hr.never ((Chg.refl Never _).drewN _))
      · clear k2
        have HG := Lib.hid (done_bad n1 n2 z)
        have ZS := Lib.hid z
        clear z n1 n2
        go_enter Tryz.func39, Tryz.ntmps39
        go_wp2_with fail
        generalize w.alloc (.cells #[.int .i64 wh, .string pa, .slice a hs.length cap] 36) = wA at hA b0 b1 b2 ⊢
        refine (strict_any L hs _ _ _ (hL.never hA) (hh.never hA)).mono ?_
        rintro e w2 ⟨r, rfl, hc2, hr⟩
        have hw := hA.trans hc2
        have b0 := hc2.cellNever b0
        have hr := hr.sub (O' := Old w.heap.size) (fun k _ h => Nat.lt_of_lt_of_le h hA.size)
        clear hc2 b1 b2
        skip
        obtain ⟨ra, rc, rfl, _, _, _⟩ := rdv_slice hr
        rw [errV_pos ZS.out]
        clear b0
        go_wp2_with fail
        go_ret3
        have E := donePost_bad HG.out hw
        rw [errV_pos ZS.out] at E
        exact E
theorem done_any (there : Bool) (L : List ByteArray) (c : Change) (lv hv : Value) (w : World) (hL : Rdv w Never lv L) (hh : Rdv w Never hv c.hunks) :
    Calls Tryz.prog 39 #[lv, .bool there, .agg #[.int .i64 c.what, .string c.path, hv]] w fun e w' => DonePost there L c w e w' := done_go there L c.what c.path c.hunks lv hv w hL hh
end Go.Proofs.YteocmmejfnmjcaaGreatDoor
namespace Go.Proofs.YteocmmejfnmjcaaGreatDoor
open Go.RowKit

/-- what has come since does not lie in the row -/
theorem OwnN.fresh {α β : Type} [Dat α] [Dat β] {e : TypeId} {w0 wr w' : World} {v u : Value} {l : List α} {x : β} (h : OwnN e w0 wr v l) (hu : Rdv w' (Old wr.heap.size) u x) : Rdv w' (fun k => Never k ∨ v.ownBlock = some k) u x :=
  hu.sub (fun k _ hh => by
    rcases hh with hh | hh
    · exact hh.elim
    · exact own_block_lt h.own k hh)
end Go.Proofs.YteocmmejfnmjcaaGreatDoor
