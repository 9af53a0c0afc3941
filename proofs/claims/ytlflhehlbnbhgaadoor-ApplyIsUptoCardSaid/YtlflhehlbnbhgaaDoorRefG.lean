/-
  THE WALK of the document's StrictOf.
-/
import Derived.Test.YtlflhehlbnbhgaaDoorRefF
import Derived.Deep.RegionHeld3
namespace Go.Proofs.YtlflhehlbnbhgaaDoor
open Go.RowKit

theorem cells2_keep {w0 w w' : World} {b o : Nat} {u v : Value} (h : Chg Never w0 w ∧ w.cell? ⟨b, o, none⟩ = some u ∧ w.cell? ⟨b, o + 2, none⟩ = some v) (hc : Chg Never w w') :
    Chg Never w0 w' ∧ w'.cell? ⟨b, o, none⟩ = some u ∧ w'.cell? ⟨b, o + 2, none⟩ = some v := ⟨h.1.trans hc, hc.cellNever h.2.1, hc.cellNever h.2.2⟩
theorem firstClash_step {a : List ByteArray} {l : List Hunk} {k : Nat} {x : Hunk} (hx : l[k]? = some x) (hs : standsB a x.old (oldOf x.marks) = true) : firstClash a k (l.drop k) = firstClash a (k + 1) (l.drop (k + 1)) := by
  rw [drop_eq hx, firstClash, if_pos hs]
theorem firstClash_hit {a : List ByteArray} {l : List Hunk} {k : Nat} {x : Hunk} (hx : l[k]? = some x) (hs : standsB a x.old (oldOf x.marks) = false) : firstClash a k (l.drop k) = some k := by
  rw [drop_eq hx, firstClash, if_neg (by simp [hs])]
theorem firstClash_end (a : List ByteArray) (l : List Hunk) : firstClash a l.length (l.drop l.length) = none := by rw [List.drop_length]; rfl
/-- strict, by way of the last hunk first -/
theorem strict_clash {a : List ByteArray} {l : List Hunk} {k : Nat} (h1 : linesFault a = 0) (h2 : hunksFault l = (0, 0)) (hf : firstClash a 0 l = some k) : strict a l = ([], k, 6) := by
  have hok := (hunksFault_zero (l := l) (by rw [h2])).2
  rw [strict, if_neg (by simp [h1]), if_neg (by simp [h2]), strictGo_back a l 0 0 [] 0 (Nat.zero_le _) hok, hf]
theorem strict_back {a : List ByteArray} {l : List Hunk} (h1 : linesFault a = 0) (h2 : hunksFault l = (0, 0)) (hf : firstClash a 0 l = none) : strict a l = if 60 < (backDo a l).length then ([], 0, 3) else (backDo a l, 0, 0) := by
  have hok := (hunksFault_zero (l := l) (by rw [h2])).2
  rw [strict, if_neg (by simp [h1]), if_neg (by simp [h2]), strictGo_back a l 0 0 [] 0 (Nat.zero_le _) hok, hf]
  simp
theorem firstClash_drop : ∀ (a : List ByteArray) (l : List Hunk) (i k : Nat), firstClash a i l = none → firstClash a (i + k) (l.drop k) = none
  | _, _, _, 0, h => by simpa using h
  | a, [], i, k + 1, h => by simp [firstClash]
  | a, x :: r, i, k + 1, h => by
    rw [firstClash] at h
    by_cases hs : standsB a x.old (oldOf x.marks) = true
    · rw [if_pos hs] at h
      have := firstClash_drop a r (i + 1) k h
      rw [List.drop_succ_cons, show i + (k + 1) = i + 1 + k by omega]
      exact this
    · rw [if_neg hs] at h; cases h
/-- what the step from number q + 1 to number q asks -/
theorem back_step {a : List ByteArray} {l : List Hunk} {q : Nat} {x : Hunk} (h2 : hunksFault l = (0, 0)) (hf : firstClash a 0 l = none) (hx : l[q]? = some x) :
    ∃ o : Nat, x.old = o ∧ o ≤ 60 ∧ o + oldN x.marks ≤ (backDo a (l.drop (q + 1))).length ∧ backDo a (l.drop q) = repl (backDo a (l.drop (q + 1))) o (oldN x.marks) (newOf x.marks) := by
  have hok := (hunksFault_zero (l := l) (by rw [h2])).2
  have hs := firstClash_none a l 0 hf x (List.mem_of_getElem? hx)
  obtain ⟨b0, b1⟩ := stands_bound hs
  obtain ⟨o, ho⟩ := Int.eq_ofNat_of_zero_le b0
  rw [ho, Int.toNat_natCast] at b1
  obtain ⟨fin', more', hk, _⟩ := hOk_drop l 0 0 q hok
  rw [drop_eq hx] at hk
  obtain ⟨_, _, z3, _, z5, _⟩ := oneFault_zero hk.1
  have hk2 : hOk ((o + oldN x.marks : Nat) : Int) (more' + newN x.marks - oldN x.marks) (l.drop (q + 1)) := by have := hk.2; rw [ho] at this; push_cast; exact this
  have hfd := firstClash_drop a l 0 (q + 1) hf
  obtain ⟨_, i2⟩ := back_take a _ _ _ _ b1 hk2 hfd
  refine ⟨o, ho, by omega, i2, ?_⟩
  rw [drop_eq hx, backDo_cons, ho, Int.toNat_natCast]

set_option maxHeartbeats 4000000 in
set_option maxRecDepth 100000 in
theorem strictOf_any (a : List ByteArray) (l : List Hunk) (va vl : Value) (w : World) (ha : Rdv w Never va a) (hl : Rdv w Never vl l) :
    Calls Tryd.prog 29 #[va, vl] w fun e w' => ∃ r, e = .returned (.tuple #[r, .int .i64 (strict a l).2.1, .int .i64 (strict a l).2.2]) ∧ Chg Never w w' ∧ Rdv w' Never r (strict a l).1 := by
  by_cases h1 : linesFault a = 0
  · by_cases h2 : (hunksFault l).2 = 0
    · have h2' := hunksFault_first h2
      obtain ⟨hl60, hok⟩ := hunksFault_zero (l := l) h2
      have hla := linesFault_len h1
      have hmem := hOk_mem _ _ _ hok
      have ho60 := hOk_old _ _ _ hok
      have H1 := Lib.hid h1
      have H2 := Lib.hid h2'
      have t1 : (linesFault a != 0) = false := by rw [h1]; rfl
      have hn120 : ∀ x ∈ l, newN x.marks ≤ 120 := fun x hx => Nat.le_trans (newN_le _) (scriptFault_len (hmem x hx))
      obtain ⟨aa, acap, rfl, a1, a2, _⟩ := rdv_slice ha
      obtain ⟨la, lcap, rfl, l1, l2, l3⟩ := rdv_slice hl
      unfold maxLen at a2 l2
      clear h1 h2 h2' hok
      go_enter Tryd.func29, Tryd.ntmps29
      go_wp2_with fail
      refine (refLines_any a _ _ ha).mono ?_
      rintro e w1 ⟨rfl, hw⟩
      rw [H1.out]
      go_wp2_with fail
      refine (refHunks_any l _ _ (hl.never hw)).mono ?_
      rintro e w2 ⟨rfl, hc2⟩
      have hw := hw.trans hc2
      clear hc2
      rw [H2.out]
      go_wp2_with fail
      go_loopw [9] (fun i wr => ∃ k : Nat, k ≤ l.length ∧ i = .int .i64 k ∧ Chg Never w wr ∧ Hid (firstClash a 0 l = firstClash a k (l.drop k))) (fun i _ => l.length - (intOf i).toNat)
      case atStart => exact ⟨0, Nat.zero_le _, rfl, hw, rfl⟩
      case round =>
        clear hw
        obtain ⟨k, hk, rfl, hc, hf⟩ := hrel
        by_cases hlt : k < l.length
        · obtain ⟨x, hx⟩ : ∃ x, l[k]? = some x := ⟨l[k], by simp [hlt]⟩
          obtain ⟨b, off, mv, rfl, _, _, c0, c1, c2, hmv⟩ := elems_hunk l3 hx
          have c0 := hc.cellNever c0
          have c2 := hc.cellNever c2
          have hmv := hmv.never hc
          have hav := ha.never hc
          have HSF := Lib.hid (hmem x (List.mem_of_getElem? hx))
          have hml := scriptFault_len HSF.out
          have hol : (those x.marks 43).length ≤ 120 := Nat.le_trans (those_le _ _) hml
          obtain ⟨o0, o1⟩ := ho60 x (List.mem_of_getElem? hx)
          have HX := Lib.hid hx
          have b1 : (k : Int) < l.length := by omega
          clear hx c1 ha hl
          go_wp2_with fail
          cases hs : standsB a x.old (those x.marks 43) with
          | true =>
            have HS := Lib.hid hs
            clear hs l3
            refine wp_region_held_drew (S := fun w' => Chg Never wr w' ∧ w'.cell? ⟨b, off + k * 3, none⟩ = some (.int .i64 x.old) ∧ w'.cell? ⟨b, off + k * 3 + 2, none⟩ = some mv) (by kernel_rfl) ⟨(Chg.refl _ _).drew, c0, c2⟩ (fun hH => ?_)
            refine' wpAnyH_take (i := 0) ?hi0 (by kernel_rfl) (by kernel_rfl) (by kernel_rfl) ?hQ0 (Or.inl ⟨?hw0, ?hy0⟩) (by assumption) ?_
            case hi0 => (simp only [List.getElem?_toArray, List.getElem?_cons_succ, List.getElem?_cons_zero]; rfl)
            case hQ0 => exact fun _ _ _ h => h
            case hw0 => rfl
            case hy0 => (intro w' hSw; (try dsimp only at hSw); go_simp; all_goals with_reducible rfl)
            try simp only [Act.put, List.setIfInBounds_toArray, List.set_cons_zero, List.set_cons_succ]
            refine' wpAnyH_take (i := 1) ?hi1 (by kernel_rfl) (by kernel_rfl) (by kernel_rfl) ?hQ1 (Or.inl ⟨?hw1, ?hy1⟩) (by assumption) ?_
            case hi1 => (simp only [List.getElem?_toArray, List.getElem?_cons_succ, List.getElem?_cons_zero]; rfl)
            case hQ1 => exact fun _ _ _ h => h
            case hw1 => rfl
            case hy1 => (intro w' hSw; (try dsimp only at hSw); go_simp; all_goals with_reducible rfl)
            try simp only [Act.put, List.setIfInBounds_toArray, List.set_cons_zero, List.set_cons_succ]
            refine' wpAnyH_take (i := 2) ?hi2 (by kernel_rfl) (by kernel_rfl) (by kernel_rfl) ?hQ2 (Or.inl ⟨?hw2, ?hy2⟩) (by assumption) ?_
            case hi2 => (simp only [List.getElem?_toArray, List.getElem?_cons_succ, List.getElem?_cons_zero]; rfl)
            case hQ2 => exact fun _ _ _ h => h
            case hw2 => rfl
            case hy2 => (intro w' hSw; (try dsimp only at hSw); go_simp; all_goals with_reducible rfl)
            try simp only [Act.put, List.setIfInBounds_toArray, List.set_cons_zero, List.set_cons_succ]
            refine' wpAnyH_take (i := 3) ?hi3 (by kernel_rfl) (by kernel_rfl) (by kernel_rfl) ?hQ3 (Or.inl ⟨?hw3, ?hy3⟩) (by assumption) ?_
            case hi3 => (simp only [List.getElem?_toArray, List.getElem?_cons_succ, List.getElem?_cons_zero]; rfl)
            case hQ3 => exact fun _ _ _ h => h
            case hw3 => rfl
            case hy3 => (intro w' hSw; (try dsimp only at hSw); go_simp; all_goals with_reducible rfl)
            try simp only [Act.put, List.setIfInBounds_toArray, List.set_cons_zero, List.set_cons_succ]
            refine' wpAnyH_take (i := 4) ?hi4 (by kernel_rfl) (by kernel_rfl) (by kernel_rfl) ?hQ4 (Or.inl ⟨?hw4, ?hy4⟩) (by assumption) ?_
            case hi4 => (simp only [List.getElem?_toArray, List.getElem?_cons_succ, List.getElem?_cons_zero]; rfl)
            case hQ4 => exact fun _ _ _ h => h
            case hw4 => rfl
            case hy4 => (intro w' hSw; (try dsimp only at hSw); go_simp; all_goals with_reducible rfl)
            try simp only [Act.put, List.setIfInBounds_toArray, List.set_cons_zero, List.set_cons_succ]
            refine' wpAnyH_take (i := 5) ?hi5 (by kernel_rfl) (by kernel_rfl) (by kernel_rfl) ?hQ5 (Or.inl ⟨?hw5, ?hy5⟩) (by assumption) ?_
            case hi5 => (simp only [List.getElem?_toArray, List.getElem?_cons_succ, List.getElem?_cons_zero]; rfl)
            case hQ5 => exact fun _ _ _ h => h
            case hw5 => rfl
            case hy5 => (intro w' hSw; (try dsimp only at hSw); go_simp; all_goals with_reducible rfl)
            try simp only [Act.put, List.setIfInBounds_toArray, List.set_cons_zero, List.set_cons_succ]
            refine' wpAnyH_take (i := 6) ?hi6 (by kernel_rfl) (by kernel_rfl) (by kernel_rfl) ?hQ6 (Or.inl ⟨?hw6, ?hy6⟩) (by assumption) ?_
            case hi6 => (simp only [List.getElem?_toArray, List.getElem?_cons_succ, List.getElem?_cons_zero]; rfl)
            case hQ6 => exact fun _ _ _ h => h
            case hw6 => rfl
            case hy6 => (intro w' hSw; (try dsimp only at hSw); go_simp; all_goals with_reducible rfl)
            try simp only [Act.put, List.setIfInBounds_toArray, List.set_cons_zero, List.set_cons_succ]
            refine' wpAnyH_take (i := 7) ?hi7 (by kernel_rfl) (by kernel_rfl) (by kernel_rfl) ?hQ7 (Or.inl ⟨?hw7, ?hy7⟩) (by assumption) ?_
            case hi7 => (simp only [List.getElem?_toArray, List.getElem?_cons_succ, List.getElem?_cons_zero]; rfl)
            case hQ7 => exact fun _ _ _ h => h
            case hw7 => rfl
            case hy7 => (intro w' hSw; (try dsimp only at hSw); go_simp; all_goals with_reducible rfl)
            try simp only [Act.put, List.setIfInBounds_toArray, List.set_cons_zero, List.set_cons_succ]
            refine' wpAnyH_take (i := 8) ?hi8 (by kernel_rfl) (by kernel_rfl) (by kernel_rfl) ?hQ8 (Or.inl ⟨?hw8, ?hy8⟩) (by assumption) ?_
            case hi8 => (simp only [List.getElem?_toArray, List.getElem?_cons_succ, List.getElem?_cons_zero]; rfl)
            case hQ8 => exact fun _ _ _ h => h
            case hw8 => rfl
            case hy8 => (intro w' hSw; (try dsimp only at hSw); go_simp; all_goals with_reducible rfl)
            try simp only [Act.put, List.setIfInBounds_toArray, List.set_cons_zero, List.set_cons_succ]
            refine' wpAnyH_take (i := 9) ?hi9 (by kernel_rfl) (by kernel_rfl) (by kernel_rfl) ?hQ9 (Or.inl ⟨?hw9, ?hy9⟩) (by assumption) ?_
            case hi9 => (simp only [List.getElem?_toArray, List.getElem?_cons_succ, List.getElem?_cons_zero]; rfl)
            case hQ9 => exact fun _ _ _ h => h
            case hw9 => rfl
            case hy9 => (intro w' hSw; (try dsimp only at hSw); go_simp; all_goals with_reducible rfl)
            try simp only [Act.put, List.setIfInBounds_toArray, List.set_cons_zero, List.set_cons_succ]
            refine' wpAnyH_take (i := 10) ?hi10 (by kernel_rfl) (by kernel_rfl) (by kernel_rfl) ?hQ10 (Or.inl ⟨?hw10, ?hy10⟩) (by assumption) ?_
            case hi10 => (simp only [List.getElem?_toArray, List.getElem?_cons_succ, List.getElem?_cons_zero]; rfl)
            case hQ10 => exact fun _ _ _ h => h
            case hw10 => rfl
            case hy10 => (intro w' hSw; (try dsimp only at hSw); go_simp; all_goals with_reducible rfl)
            try simp only [Act.put, List.setIfInBounds_toArray, List.set_cons_zero, List.set_cons_succ]
            refine wpAnyH_ready (rs := [11]) (by kernel_rfl) (by simp) ?_
            refine AllReadyH.cons rfl (fun K hK => ?_) AllReadyH.nil
            go_simp
            (go_at_call 10; refine (refOld_any x.marks _ _ (hmv.never (And.left hH)) HSF.out).mono ?_; rintro e wq ⟨rq, rfl, hcq, hrq⟩; have hrO := hrq.sub (O' := Never) (fun _ _ h => h.elim); clear hrq; obtain ⟨oa, oc, rfl, _, _, _⟩ := rdv_slice hrO; have hS2 := cells2_keep hH hcq; clear hH hcq)
            try go_wp2_with fail
            refine hK.out _ _ ?_ (fun hH => ?_)
            · assumption
            clear hK K
            try simp only [Act.put, List.setIfInBounds_toArray, List.set_cons_zero, List.set_cons_succ]
            refine wpAnyH_ready (rs := [12]) (by kernel_rfl) (by simp) ?_
            refine AllReadyH.cons rfl (fun K hK => ?_) AllReadyH.nil
            go_simp
            (go_at_call 47; refine (refStands_any a (those x.marks 43) x.old _ _ _ (hav.never (And.left hH)) hrO (by omega) (by omega) (by omega) (by omega)).mono ?_; rintro e wq2 ⟨rfl, hcq2⟩; have hS3 := cells2_keep hH hcq2; clear hH hcq2; rw [HS.out])
            try go_wp2_with fail
            refine hK.out _ _ ?_ (fun hH => ?_)
            · assumption
            clear hK K
            try simp only [Act.put, List.setIfInBounds_toArray, List.set_cons_zero, List.set_cons_succ]
            refine' wpAnyH_take (i := 13) ?hi13 (by kernel_rfl) (by kernel_rfl) (by kernel_rfl) ?hQ13 (Or.inl ⟨?hw13, ?hy13⟩) (by assumption) ?_
            case hi13 => (simp only [List.getElem?_toArray, List.getElem?_cons_succ, List.getElem?_cons_zero]; rfl)
            case hQ13 => exact fun _ _ _ h => h
            case hw13 => rfl
            case hy13 => (intro w' hSw; (try dsimp only at hSw); go_simp; all_goals with_reducible rfl)
            try simp only [Act.put, List.setIfInBounds_toArray, List.set_cons_zero, List.set_cons_succ]
            refine wpAnyH_done (by kernel_rfl) ?_ _
            have hcF := hc.trans (And.left hH)
            clear hH c0 c2 hmv hav hrO
            go_wp2_with fail
            go_roundw
            case rel => exact ⟨k + 1, by omega, by go_num, hcF, by rw [Hid, hf.out]; exact firstClash_step HX.out HS.out⟩
            case measure => simp [intOf] <;> omega
          | false =>
            have HS := Lib.hid hs
            have HB := Lib.hid (strict_clash H1.out H2.out (by rw [hf.out]; exact firstClash_hit HX.out HS.out))
            clear hs l3
            refine wp_region_held_drew (S := fun w' => Chg Never wr w' ∧ w'.cell? ⟨b, off + k * 3, none⟩ = some (.int .i64 x.old) ∧ w'.cell? ⟨b, off + k * 3 + 2, none⟩ = some mv) (by kernel_rfl) ⟨(Chg.refl _ _).drew, c0, c2⟩ (fun hH => ?_)
            refine' wpAnyH_take (i := 0) ?hi0 (by kernel_rfl) (by kernel_rfl) (by kernel_rfl) ?hQ0 (Or.inl ⟨?hw0, ?hy0⟩) (by assumption) ?_
            case hi0 => (simp only [List.getElem?_toArray, List.getElem?_cons_succ, List.getElem?_cons_zero]; rfl)
            case hQ0 => exact fun _ _ _ h => h
            case hw0 => rfl
            case hy0 => (intro w' hSw; (try dsimp only at hSw); go_simp; all_goals with_reducible rfl)
            try simp only [Act.put, List.setIfInBounds_toArray, List.set_cons_zero, List.set_cons_succ]
            refine' wpAnyH_take (i := 1) ?hi1 (by kernel_rfl) (by kernel_rfl) (by kernel_rfl) ?hQ1 (Or.inl ⟨?hw1, ?hy1⟩) (by assumption) ?_
            case hi1 => (simp only [List.getElem?_toArray, List.getElem?_cons_succ, List.getElem?_cons_zero]; rfl)
            case hQ1 => exact fun _ _ _ h => h
            case hw1 => rfl
            case hy1 => (intro w' hSw; (try dsimp only at hSw); go_simp; all_goals with_reducible rfl)
            try simp only [Act.put, List.setIfInBounds_toArray, List.set_cons_zero, List.set_cons_succ]
            refine' wpAnyH_take (i := 2) ?hi2 (by kernel_rfl) (by kernel_rfl) (by kernel_rfl) ?hQ2 (Or.inl ⟨?hw2, ?hy2⟩) (by assumption) ?_
            case hi2 => (simp only [List.getElem?_toArray, List.getElem?_cons_succ, List.getElem?_cons_zero]; rfl)
            case hQ2 => exact fun _ _ _ h => h
            case hw2 => rfl
            case hy2 => (intro w' hSw; (try dsimp only at hSw); go_simp; all_goals with_reducible rfl)
            try simp only [Act.put, List.setIfInBounds_toArray, List.set_cons_zero, List.set_cons_succ]
            refine' wpAnyH_take (i := 3) ?hi3 (by kernel_rfl) (by kernel_rfl) (by kernel_rfl) ?hQ3 (Or.inl ⟨?hw3, ?hy3⟩) (by assumption) ?_
            case hi3 => (simp only [List.getElem?_toArray, List.getElem?_cons_succ, List.getElem?_cons_zero]; rfl)
            case hQ3 => exact fun _ _ _ h => h
            case hw3 => rfl
            case hy3 => (intro w' hSw; (try dsimp only at hSw); go_simp; all_goals with_reducible rfl)
            try simp only [Act.put, List.setIfInBounds_toArray, List.set_cons_zero, List.set_cons_succ]
            refine' wpAnyH_take (i := 4) ?hi4 (by kernel_rfl) (by kernel_rfl) (by kernel_rfl) ?hQ4 (Or.inl ⟨?hw4, ?hy4⟩) (by assumption) ?_
            case hi4 => (simp only [List.getElem?_toArray, List.getElem?_cons_succ, List.getElem?_cons_zero]; rfl)
            case hQ4 => exact fun _ _ _ h => h
            case hw4 => rfl
            case hy4 => (intro w' hSw; (try dsimp only at hSw); go_simp; all_goals with_reducible rfl)
            try simp only [Act.put, List.setIfInBounds_toArray, List.set_cons_zero, List.set_cons_succ]
            refine' wpAnyH_take (i := 5) ?hi5 (by kernel_rfl) (by kernel_rfl) (by kernel_rfl) ?hQ5 (Or.inl ⟨?hw5, ?hy5⟩) (by assumption) ?_
            case hi5 => (simp only [List.getElem?_toArray, List.getElem?_cons_succ, List.getElem?_cons_zero]; rfl)
            case hQ5 => exact fun _ _ _ h => h
            case hw5 => rfl
            case hy5 => (intro w' hSw; (try dsimp only at hSw); go_simp; all_goals with_reducible rfl)
            try simp only [Act.put, List.setIfInBounds_toArray, List.set_cons_zero, List.set_cons_succ]
            refine' wpAnyH_take (i := 6) ?hi6 (by kernel_rfl) (by kernel_rfl) (by kernel_rfl) ?hQ6 (Or.inl ⟨?hw6, ?hy6⟩) (by assumption) ?_
            case hi6 => (simp only [List.getElem?_toArray, List.getElem?_cons_succ, List.getElem?_cons_zero]; rfl)
            case hQ6 => exact fun _ _ _ h => h
            case hw6 => rfl
            case hy6 => (intro w' hSw; (try dsimp only at hSw); go_simp; all_goals with_reducible rfl)
            try simp only [Act.put, List.setIfInBounds_toArray, List.set_cons_zero, List.set_cons_succ]
            refine' wpAnyH_take (i := 7) ?hi7 (by kernel_rfl) (by kernel_rfl) (by kernel_rfl) ?hQ7 (Or.inl ⟨?hw7, ?hy7⟩) (by assumption) ?_
            case hi7 => (simp only [List.getElem?_toArray, List.getElem?_cons_succ, List.getElem?_cons_zero]; rfl)
            case hQ7 => exact fun _ _ _ h => h
            case hw7 => rfl
            case hy7 => (intro w' hSw; (try dsimp only at hSw); go_simp; all_goals with_reducible rfl)
            try simp only [Act.put, List.setIfInBounds_toArray, List.set_cons_zero, List.set_cons_succ]
            refine' wpAnyH_take (i := 8) ?hi8 (by kernel_rfl) (by kernel_rfl) (by kernel_rfl) ?hQ8 (Or.inl ⟨?hw8, ?hy8⟩) (by assumption) ?_
            case hi8 => (simp only [List.getElem?_toArray, List.getElem?_cons_succ, List.getElem?_cons_zero]; rfl)
            case hQ8 => exact fun _ _ _ h => h
            case hw8 => rfl
            case hy8 => (intro w' hSw; (try dsimp only at hSw); go_simp; all_goals with_reducible rfl)
            try simp only [Act.put, List.setIfInBounds_toArray, List.set_cons_zero, List.set_cons_succ]
            refine' wpAnyH_take (i := 9) ?hi9 (by kernel_rfl) (by kernel_rfl) (by kernel_rfl) ?hQ9 (Or.inl ⟨?hw9, ?hy9⟩) (by assumption) ?_
            case hi9 => (simp only [List.getElem?_toArray, List.getElem?_cons_succ, List.getElem?_cons_zero]; rfl)
            case hQ9 => exact fun _ _ _ h => h
            case hw9 => rfl
            case hy9 => (intro w' hSw; (try dsimp only at hSw); go_simp; all_goals with_reducible rfl)
            try simp only [Act.put, List.setIfInBounds_toArray, List.set_cons_zero, List.set_cons_succ]
            refine' wpAnyH_take (i := 10) ?hi10 (by kernel_rfl) (by kernel_rfl) (by kernel_rfl) ?hQ10 (Or.inl ⟨?hw10, ?hy10⟩) (by assumption) ?_
            case hi10 => (simp only [List.getElem?_toArray, List.getElem?_cons_succ, List.getElem?_cons_zero]; rfl)
            case hQ10 => exact fun _ _ _ h => h
            case hw10 => rfl
            case hy10 => (intro w' hSw; (try dsimp only at hSw); go_simp; all_goals with_reducible rfl)
            try simp only [Act.put, List.setIfInBounds_toArray, List.set_cons_zero, List.set_cons_succ]
            refine wpAnyH_ready (rs := [11]) (by kernel_rfl) (by simp) ?_
            refine AllReadyH.cons rfl (fun K hK => ?_) AllReadyH.nil
            go_simp
            (go_at_call 10; refine (refOld_any x.marks _ _ (hmv.never (And.left hH)) HSF.out).mono ?_; rintro e wq ⟨rq, rfl, hcq, hrq⟩; have hrO := hrq.sub (O' := Never) (fun _ _ h => h.elim); clear hrq; obtain ⟨oa, oc, rfl, _, _, _⟩ := rdv_slice hrO; have hS2 := cells2_keep hH hcq; clear hH hcq)
            try go_wp2_with fail
            refine hK.out _ _ ?_ (fun hH => ?_)
            · assumption
            clear hK K
            try simp only [Act.put, List.setIfInBounds_toArray, List.set_cons_zero, List.set_cons_succ]
            refine wpAnyH_ready (rs := [12]) (by kernel_rfl) (by simp) ?_
            refine AllReadyH.cons rfl (fun K hK => ?_) AllReadyH.nil
            go_simp
            (go_at_call 47; refine (refStands_any a (those x.marks 43) x.old _ _ _ (hav.never (And.left hH)) hrO (by omega) (by omega) (by omega) (by omega)).mono ?_; rintro e wq2 ⟨rfl, hcq2⟩; have hS3 := cells2_keep hH hcq2; clear hH hcq2; rw [HS.out])
            try go_wp2_with fail
            refine hK.out _ _ ?_ (fun hH => ?_)
            · assumption
            clear hK K
            try simp only [Act.put, List.setIfInBounds_toArray, List.set_cons_zero, List.set_cons_succ]
            refine' wpAnyH_take (i := 13) ?hi13 (by kernel_rfl) (by kernel_rfl) (by kernel_rfl) ?hQ13 (Or.inl ⟨?hw13, ?hy13⟩) (by assumption) ?_
            case hi13 => (simp only [List.getElem?_toArray, List.getElem?_cons_succ, List.getElem?_cons_zero]; rfl)
            case hQ13 => exact fun _ _ _ h => h
            case hw13 => rfl
            case hy13 => (intro w' hSw; (try dsimp only at hSw); go_simp; all_goals with_reducible rfl)
            try simp only [Act.put, List.setIfInBounds_toArray, List.set_cons_zero, List.set_cons_succ]
            refine wpAnyH_done (by kernel_rfl) ?_ _
            have hcF := hc.trans (And.left hH)
            clear hH c0 c2 hmv hav hrO
            go_wp2_with fail
            go_ret3
            exact ⟨.slice none 0 0, by rw [HB.out]; rfl, hcF, by rw [HB.out]; exact rdv_nil _ _⟩
        · obtain rfl : k = l.length := by omega
          have HFC : Hid (firstClash a 0 l = none) := by rw [Hid, hf.out, List.drop_length]; rfl
          have HST := Lib.hid (strict_back H1.out H2.out HFC.out)
          clear hf hlt hk
          go_wp2_with fail
          go_loopw [11, 12] (fun o i wr => ∃ (y : Int) (oa : Option Addr) (oc : Nat), -1 ≤ y ∧ y < l.length ∧ i = .int .i64 y ∧ Chg Never w wr ∧ o = .slice oa (backDo a (l.drop (y + 1).toNat)).length oc ∧ Rdv wr Never o (backDo a (l.drop (y + 1).toNat))) (fun _ i _ => (intOf i + 1).toNat)
          case atStart => exact ⟨(l.length : Int) - 1, _, _, by omega, by omega, rfl, hc, by rw [show ((l.length : Int) - 1 + 1).toNat = l.length by omega, List.drop_length]; rfl, by rw [show ((l.length : Int) - 1 + 1).toNat = l.length by omega, List.drop_length]; exact ha.never hc⟩
          case round =>
            clear hc
            obtain ⟨y, oa, oc, hy0, hy1, rfl, hc, rfl, hov⟩ := hrel
            by_cases hy : 0 ≤ y
            · obtain ⟨k, rfl⟩ := Int.eq_ofNat_of_zero_le hy
              rw [show ((k : Int) + 1).toNat = k + 1 by omega] at hov ⊢
              have hlt : k < l.length := by omega
              obtain ⟨x, hx⟩ : ∃ x, l[k]? = some x := ⟨l[k], by simp [hlt]⟩
              obtain ⟨b, off, mv, rfl, _, _, c0, c1, c2, hmv⟩ := elems_hunk l3 hx
              have c0 := hc.cellNever c0
              have c2 := hc.cellNever c2
              have hmv := hmv.never hc
              have HSF := Lib.hid (hmem x (List.mem_of_getElem? hx))
              have hml := scriptFault_len HSF.out
              have hol : (those x.marks 43).length ≤ 120 := Nat.le_trans (those_le _ _) hml
              have hnl : (those x.marks 45).length ≤ 120 := Nat.le_trans (those_le _ _) hml
              obtain ⟨o, ho, ho6, hole, hbk⟩ := back_step H2.out HFC.out hx
              have HBK := Lib.hid hbk
              have hbl := backDo_length a (l.drop (k + 1)) (fun z hz => hn120 z (List.mem_of_mem_drop hz))
              rw [List.length_drop] at hbl
              have eo : oldN x.marks = (those x.marks 43).length := rfl
              have en : newOf x.marks = those x.marks 45 := rfl
              rw [ho] at c0
              clear hx c1 l3 ha hl hbk
              generalize backDo a (l.drop (k + 1)) = BK at *
              go_wp2_with fail
              refine wp_region_held_drew (S := fun w' => Chg Never wr w' ∧ w'.cell? ⟨b, off + k * 3, none⟩ = some (.int .i64 (o : Int)) ∧ w'.cell? ⟨b, off + k * 3 + 2, none⟩ = some mv) (by kernel_rfl) ⟨(Chg.refl _ _).drew, c0, c2⟩ (fun hH => ?_)
              refine' wpAnyH_take (i := 0) ?hi0 (by kernel_rfl) (by kernel_rfl) (by kernel_rfl) ?hQ0 (Or.inl ⟨?hw0, ?hy0⟩) (by assumption) ?_
              case hi0 => (simp only [List.getElem?_toArray, List.getElem?_cons_succ, List.getElem?_cons_zero]; rfl)
              case hQ0 => exact fun _ _ _ h => h
              case hw0 => rfl
              case hy0 => (intro w' hSw; (try dsimp only at hSw); go_simp; all_goals with_reducible rfl)
              try simp only [Act.put, List.setIfInBounds_toArray, List.set_cons_zero, List.set_cons_succ]
              refine' wpAnyH_take (i := 1) ?hi1 (by kernel_rfl) (by kernel_rfl) (by kernel_rfl) ?hQ1 (Or.inl ⟨?hw1, ?hy1⟩) (by assumption) ?_
              case hi1 => (simp only [List.getElem?_toArray, List.getElem?_cons_succ, List.getElem?_cons_zero]; rfl)
              case hQ1 => exact fun _ _ _ h => h
              case hw1 => rfl
              case hy1 => (intro w' hSw; (try dsimp only at hSw); go_simp; all_goals with_reducible rfl)
              try simp only [Act.put, List.setIfInBounds_toArray, List.set_cons_zero, List.set_cons_succ]
              refine' wpAnyH_take (i := 2) ?hi2 (by kernel_rfl) (by kernel_rfl) (by kernel_rfl) ?hQ2 (Or.inl ⟨?hw2, ?hy2⟩) (by assumption) ?_
              case hi2 => (simp only [List.getElem?_toArray, List.getElem?_cons_succ, List.getElem?_cons_zero]; rfl)
              case hQ2 => exact fun _ _ _ h => h
              case hw2 => rfl
              case hy2 => (intro w' hSw; (try dsimp only at hSw); go_simp; all_goals with_reducible rfl)
              try simp only [Act.put, List.setIfInBounds_toArray, List.set_cons_zero, List.set_cons_succ]
              refine' wpAnyH_take (i := 3) ?hi3 (by kernel_rfl) (by kernel_rfl) (by kernel_rfl) ?hQ3 (Or.inl ⟨?hw3, ?hy3⟩) (by assumption) ?_
              case hi3 => (simp only [List.getElem?_toArray, List.getElem?_cons_succ, List.getElem?_cons_zero]; rfl)
              case hQ3 => exact fun _ _ _ h => h
              case hw3 => rfl
              case hy3 => (intro w' hSw; (try dsimp only at hSw); go_simp; all_goals with_reducible rfl)
              try simp only [Act.put, List.setIfInBounds_toArray, List.set_cons_zero, List.set_cons_succ]
              refine' wpAnyH_take (i := 4) ?hi4 (by kernel_rfl) (by kernel_rfl) (by kernel_rfl) ?hQ4 (Or.inl ⟨?hw4, ?hy4⟩) (by assumption) ?_
              case hi4 => (simp only [List.getElem?_toArray, List.getElem?_cons_succ, List.getElem?_cons_zero]; rfl)
              case hQ4 => exact fun _ _ _ h => h
              case hw4 => rfl
              case hy4 => (intro w' hSw; (try dsimp only at hSw); go_simp; all_goals with_reducible rfl)
              try simp only [Act.put, List.setIfInBounds_toArray, List.set_cons_zero, List.set_cons_succ]
              refine' wpAnyH_take (i := 5) ?hi5 (by kernel_rfl) (by kernel_rfl) (by kernel_rfl) ?hQ5 (Or.inl ⟨?hw5, ?hy5⟩) (by assumption) ?_
              case hi5 => (simp only [List.getElem?_toArray, List.getElem?_cons_succ, List.getElem?_cons_zero]; rfl)
              case hQ5 => exact fun _ _ _ h => h
              case hw5 => rfl
              case hy5 => (intro w' hSw; (try dsimp only at hSw); go_simp; all_goals with_reducible rfl)
              try simp only [Act.put, List.setIfInBounds_toArray, List.set_cons_zero, List.set_cons_succ]
              refine' wpAnyH_take (i := 6) ?hi6 (by kernel_rfl) (by kernel_rfl) (by kernel_rfl) ?hQ6 (Or.inl ⟨?hw6, ?hy6⟩) (by assumption) ?_
              case hi6 => (simp only [List.getElem?_toArray, List.getElem?_cons_succ, List.getElem?_cons_zero]; rfl)
              case hQ6 => exact fun _ _ _ h => h
              case hw6 => rfl
              case hy6 => (intro w' hSw; (try dsimp only at hSw); go_simp; all_goals with_reducible rfl)
              try simp only [Act.put, List.setIfInBounds_toArray, List.set_cons_zero, List.set_cons_succ]
              refine' wpAnyH_take (i := 7) ?hi7 (by kernel_rfl) (by kernel_rfl) (by kernel_rfl) ?hQ7 (Or.inl ⟨?hw7, ?hy7⟩) (by assumption) ?_
              case hi7 => (simp only [List.getElem?_toArray, List.getElem?_cons_succ, List.getElem?_cons_zero]; rfl)
              case hQ7 => exact fun _ _ _ h => h
              case hw7 => rfl
              case hy7 => (intro w' hSw; (try dsimp only at hSw); go_simp; all_goals with_reducible rfl)
              try simp only [Act.put, List.setIfInBounds_toArray, List.set_cons_zero, List.set_cons_succ]
              refine' wpAnyH_take (i := 8) ?hi8 (by kernel_rfl) (by kernel_rfl) (by kernel_rfl) ?hQ8 (Or.inl ⟨?hw8, ?hy8⟩) (by assumption) ?_
              case hi8 => (simp only [List.getElem?_toArray, List.getElem?_cons_succ, List.getElem?_cons_zero]; rfl)
              case hQ8 => exact fun _ _ _ h => h
              case hw8 => rfl
              case hy8 => (intro w' hSw; (try dsimp only at hSw); go_simp; all_goals with_reducible rfl)
              try simp only [Act.put, List.setIfInBounds_toArray, List.set_cons_zero, List.set_cons_succ]
              refine' wpAnyH_take (i := 9) ?hi9 (by kernel_rfl) (by kernel_rfl) (by kernel_rfl) ?hQ9 (Or.inl ⟨?hw9, ?hy9⟩) (by assumption) ?_
              case hi9 => (simp only [List.getElem?_toArray, List.getElem?_cons_succ, List.getElem?_cons_zero]; rfl)
              case hQ9 => exact fun _ _ _ h => h
              case hw9 => rfl
              case hy9 => (intro w' hSw; (try dsimp only at hSw); go_simp; all_goals with_reducible rfl)
              try simp only [Act.put, List.setIfInBounds_toArray, List.set_cons_zero, List.set_cons_succ]
              refine' wpAnyH_take (i := 10) ?hi10 (by kernel_rfl) (by kernel_rfl) (by kernel_rfl) ?hQ10 (Or.inl ⟨?hw10, ?hy10⟩) (by assumption) ?_
              case hi10 => (simp only [List.getElem?_toArray, List.getElem?_cons_succ, List.getElem?_cons_zero]; rfl)
              case hQ10 => exact fun _ _ _ h => h
              case hw10 => rfl
              case hy10 => (intro w' hSw; (try dsimp only at hSw); go_simp; all_goals with_reducible rfl)
              try simp only [Act.put, List.setIfInBounds_toArray, List.set_cons_zero, List.set_cons_succ]
              refine' wpAnyH_take (i := 13) ?hi13 (by kernel_rfl) (by kernel_rfl) (by kernel_rfl) ?hQ13 (Or.inl ⟨?hw13, ?hy13⟩) (by assumption) ?_
              case hi13 => (simp only [List.getElem?_toArray, List.getElem?_cons_succ, List.getElem?_cons_zero]; rfl)
              case hQ13 => exact fun _ _ _ h => h
              case hw13 => rfl
              case hy13 => (intro w' hSw; (try dsimp only at hSw); go_simp; all_goals with_reducible rfl)
              try simp only [Act.put, List.setIfInBounds_toArray, List.set_cons_zero, List.set_cons_succ]
              refine' wpAnyH_take (i := 14) ?hi14 (by kernel_rfl) (by kernel_rfl) (by kernel_rfl) ?hQ14 (Or.inl ⟨?hw14, ?hy14⟩) (by assumption) ?_
              case hi14 => (simp only [List.getElem?_toArray, List.getElem?_cons_succ, List.getElem?_cons_zero]; rfl)
              case hQ14 => exact fun _ _ _ h => h
              case hw14 => rfl
              case hy14 => (intro w' hSw; (try dsimp only at hSw); go_simp; all_goals with_reducible rfl)
              try simp only [Act.put, List.setIfInBounds_toArray, List.set_cons_zero, List.set_cons_succ]
              refine' wpAnyH_take (i := 15) ?hi15 (by kernel_rfl) (by kernel_rfl) (by kernel_rfl) ?hQ15 (Or.inl ⟨?hw15, ?hy15⟩) (by assumption) ?_
              case hi15 => (simp only [List.getElem?_toArray, List.getElem?_cons_succ, List.getElem?_cons_zero]; rfl)
              case hQ15 => exact fun _ _ _ h => h
              case hw15 => rfl
              case hy15 => (intro w' hSw; (try dsimp only at hSw); go_simp; all_goals with_reducible rfl)
              try simp only [Act.put, List.setIfInBounds_toArray, List.set_cons_zero, List.set_cons_succ]
              refine' wpAnyH_take (i := 16) ?hi16 (by kernel_rfl) (by kernel_rfl) (by kernel_rfl) ?hQ16 (Or.inl ⟨?hw16, ?hy16⟩) (by assumption) ?_
              case hi16 => (simp only [List.getElem?_toArray, List.getElem?_cons_succ, List.getElem?_cons_zero]; rfl)
              case hQ16 => exact fun _ _ _ h => h
              case hw16 => rfl
              case hy16 => (intro w' hSw; (try dsimp only at hSw); go_simp; all_goals with_reducible rfl)
              try simp only [Act.put, List.setIfInBounds_toArray, List.set_cons_zero, List.set_cons_succ]
              refine' wpAnyH_take (i := 17) ?hi17 (by kernel_rfl) (by kernel_rfl) (by kernel_rfl) ?hQ17 (Or.inl ⟨?hw17, ?hy17⟩) (by assumption) ?_
              case hi17 => (simp only [List.getElem?_toArray, List.getElem?_cons_succ, List.getElem?_cons_zero]; rfl)
              case hQ17 => exact fun _ _ _ h => h
              case hw17 => rfl
              case hy17 => (intro w' hSw; (try dsimp only at hSw); go_simp; all_goals with_reducible rfl)
              try simp only [Act.put, List.setIfInBounds_toArray, List.set_cons_zero, List.set_cons_succ]
              refine wpAnyH_ready (rs := [11]) (by kernel_rfl) (by simp) ?_
              refine AllReadyH.cons rfl (fun K hK => ?_) AllReadyH.nil
              go_simp
              (go_at_call 10; refine (refOld_any x.marks _ _ (hmv.never (And.left hH)) HSF.out).mono ?_; rintro e wq ⟨rq, rfl, hcq, hrq⟩; obtain ⟨qa, qc, rfl, _, _, _⟩ := rdv_slice hrq; have hS2 := cells2_keep hH hcq; clear hH hcq hrq)
              try go_wp2_with fail
              refine hK.out _ _ ?_ (fun hH => ?_)
              · assumption
              clear hK K
              try simp only [Act.put, List.setIfInBounds_toArray, List.set_cons_zero, List.set_cons_succ]
              refine' wpAnyH_take (i := 12) ?hi12 (by kernel_rfl) (by kernel_rfl) (by kernel_rfl) ?hQ12 (Or.inl ⟨?hw12, ?hy12⟩) (by assumption) ?_
              case hi12 => (simp only [List.getElem?_toArray, List.getElem?_cons_succ, List.getElem?_cons_zero]; rfl)
              case hQ12 => exact fun _ _ _ h => h
              case hw12 => rfl
              case hy12 => (intro w' hSw; (try dsimp only at hSw); go_simp; all_goals with_reducible rfl)
              try simp only [Act.put, List.setIfInBounds_toArray, List.set_cons_zero, List.set_cons_succ]
              refine wpAnyH_ready (rs := [18]) (by kernel_rfl) (by simp) ?_
              refine AllReadyH.cons rfl (fun K hK => ?_) AllReadyH.nil
              go_simp
              (go_at_call 11; refine (refNew_any x.marks _ _ (hmv.never (And.left hH)) HSF.out).mono ?_; rintro e wq2 ⟨rq2, rfl, hcq2, hrq2⟩; have hrN := hrq2.sub (O' := Never) (fun _ _ h => h.elim); obtain ⟨na, nc, rfl, _, _, _⟩ := rdv_slice hrN; have hS3 := cells2_keep hH hcq2; clear hH hcq2 hrq2)
              try go_wp2_with fail
              refine hK.out _ _ ?_ (fun hH => ?_)
              · assumption
              clear hK K
              try simp only [Act.put, List.setIfInBounds_toArray, List.set_cons_zero, List.set_cons_succ]
              refine wpAnyH_ready (rs := [19]) (by kernel_rfl) (by simp) ?_
              refine AllReadyH.cons rfl (fun K hK => ?_) AllReadyH.nil
              go_simp
              (go_at_call 48; refine (replaced_any BK (those x.marks 45) o (those x.marks 43).length _ _ _ (hov.never (And.left hH)) hrN (by omega) (by omega) (by omega)).mono ?_; rintro e wq3 ⟨rq3, rfl, hcq3, hrq3⟩; have hrR := hrq3.sub (O' := Never) (fun _ _ h => h.elim); obtain ⟨ra, rc, rfl, _, _, _⟩ := rdv_slice hrR; have hS4 := cells2_keep hH hcq3; clear hH hcq3 hrq3)
              try go_wp2_with fail
              refine hK.out _ _ ?_ (fun hH => ?_)
              · assumption
              clear hK K
              try simp only [Act.put, List.setIfInBounds_toArray, List.set_cons_zero, List.set_cons_succ]
              refine' wpAnyH_take (i := 20) ?hi20 (by kernel_rfl) (by kernel_rfl) (by kernel_rfl) ?hQ20 (Or.inl ⟨?hw20, ?hy20⟩) (by assumption) ?_
              case hi20 => (simp only [List.getElem?_toArray, List.getElem?_cons_succ, List.getElem?_cons_zero]; rfl)
              case hQ20 => exact fun _ _ _ h => h
              case hw20 => rfl
              case hy20 => (intro w' hSw; (try dsimp only at hSw); go_simp; all_goals with_reducible rfl)
              try simp only [Act.put, List.setIfInBounds_toArray, List.set_cons_zero, List.set_cons_succ]
              refine wpAnyH_done (by kernel_rfl) ?_ _
              have hcF := hc.trans (And.left hH)
              clear hH c0 c2 hmv hov hrN
              have hE : repl BK o (those x.marks 43).length (those x.marks 45) = backDo a (l.drop k) := by rw [HBK.out, eo, en]
              rw [hE] at hrR ⊢
              go_wp2_with fail
              go_roundw
              case rel => exact ⟨(k : Int) - 1, ra, rc, by omega, by omega, rfl, hcF, by rw [show ((k : Int) - 1 + 1).toNat = k by omega], by rw [show ((k : Int) - 1 + 1).toNat = k by omega]; exact hrR⟩
              case measure => simp [intOf] <;> omega
            · obtain rfl : y = -1 := by omega
              rw [show ((-1 : Int) + 1).toNat = 0 from rfl, List.drop_zero] at hov ⊢
              have hbl := backDo_length a l hn120
              generalize backDo a l = BK at *
              by_cases h60 : 60 < BK.length
              · have HE : Hid (strict a l = ([], 0, 3)) := by rw [Hid, HST.out, if_pos h60]
                go_wp2_with fail
                go_ret3
                exact ⟨.slice none 0 0, by rw [HE.out]; rfl, hc, by rw [HE.out]; exact rdv_nil _ _⟩
              · have HE : Hid (strict a l = (BK, 0, 0)) := by rw [Hid, HST.out, if_neg h60]
                go_wp2_with fail
                go_ret3
                exact ⟨_, by rw [HE.out]; rfl, hc, by rw [HE.out]; exact hov⟩
    · have HS : Hid (strict a l = ([], (hunksFault l).1, (hunksFault l).2)) := by unfold Hid strict; rw [if_neg (by simp [h1]), if_pos h2]
      have H1 := Lib.hid h1
      have t2 : ((hunksFault l).2 != 0) = true := by simp [h2]
      clear h1 h2
      go_enter Tryd.func29, Tryd.ntmps29
      go_wp2_with fail
      refine (refLines_any a _ _ ha).mono ?_
      rintro e w1 ⟨rfl, hw⟩
      rw [H1.out]
      go_wp2_with fail
      refine (refHunks_any l _ _ (hl.never hw)).mono ?_
      rintro e w2 ⟨rfl, hc2⟩
      have hw := hw.trans hc2
      clear hc2
      go_wp2_with fail
      go_ret3
      exact ⟨.slice none 0 0, by rw [HS.out]; rfl, hw, by rw [HS.out]; exact rdv_nil _ _⟩
  · have HS : Hid (strict a l = ([], 0, linesFault a)) := if_pos h1
    have t1 : (linesFault a != 0) = true := by simp [h1]
    clear h1
    go_enter Tryd.func29, Tryd.ntmps29
    go_wp2_with fail
    refine (refLines_any a _ _ ha).mono ?_
    rintro e w1 ⟨rfl, hw⟩
    go_wp2_with fail
    go_ret3
    exact ⟨.slice none 0 0, by rw [HS.out]; rfl, hw, by rw [HS.out]; exact rdv_nil _ _⟩
end Go.Proofs.YtlflhehlbnbhgaaDoor
