/-
  PARTS: THE WALK of the document's StrictOf.; THE WALK of patch.done: what a change does to what a path reads.; DOING A PATCH, step by step, in plain Lean.; THE WALK of the document's ApplyOf.; THE WALK of the document's Line: go.
-/
import Derived.Test.YtmjpfoeaobdaeaaGreatDoorRa2
import Derived.Test.YtmjpfoeaobdaeaaGreatDoorRa23
import Derived.Deep.RegionHeld3
import Derived.Test.YtmjpfoeaobdaeaaGreatDoorRa13
import Derived.Test.YtmjpfoeaobdaeaaGreatDoorRa7
import Derived.BigQuiet
import Derived.Test.YtmjpfoeaobdaeaaGreatDoorRa11
import Derived.Test.YtmjpfoeaobdaeaaGreatDoorRa9
import Derived.Test.YtmjpfoeaobdaeaaGreatDoorRa16
import Derived.Test.YtmjpfoeaobdaeaaGreatDoorRa20
import Derived.Test.YtmjpfoeaobdaeaaGreatDoorRa14
import Derived.Test.YtmjpfoeaobdaeaaGreatDoorRa21
set_option linter.unusedVariables false
set_option linter.unusedSimpArgs false
namespace Go.Proofs.YtmjpfoeaobdaeaaGreatDoor
open Go.RowKit

theorem cells2_keep {w0 w w' : World} {b o : Nat} {u v : Value} (h : Chg Never w0 w ∧ w.cell? ⟨b, o, none⟩ = some u ∧ w.cell? ⟨b, o + 2, none⟩ = some v) (hc : Chg Never w w') :
    Chg Never w0 w' ∧ w'.cell? ⟨b, o, none⟩ = some u ∧ w'.cell? ⟨b, o + 2, none⟩ = some v := ⟨h.1.trans hc, hc.cellNever h.2.1, hc.cellNever h.2.2⟩
theorem firstClash_step {a : List ByteArray} {l : List Hunk} {k : Nat} {x : Hunk} (hx : l[k]? = some x) (hs : standsB a x.old (oldOf x.marks) = true) : firstClash a k (l.drop k) = firstClash a (k + 1) (l.drop (k + 1)) := by
  rw [drop_eq hx, firstClash, if_pos hs]
theorem firstClash_hit {a : List ByteArray} {l : List Hunk} {k : Nat} {x : Hunk} (hx : l[k]? = some x) (hs : standsB a x.old (oldOf x.marks) = false) : firstClash a k (l.drop k) = some k := by
  rw [drop_eq hx, firstClash, if_neg (by simp [hs])]
theorem strict_clash {a : List ByteArray} {l : List Hunk} {k : Nat} (h1 : linesFault a = 0) (h2 : hunksFault l = (0, 0)) (hf : firstClash a 0 l = some k) : strict a l = ([], k, 6) := by
  have hok := (hunksFault_zero (l := l) (by rw [h2])).2
  rw [strict, if_neg (by simp [h1]), if_neg (by simp [h2]), strictGo_back a l 0 0 [] 0 (Nat.zero_le _) hok, hf]
theorem strict_back {a : List ByteArray} {l : List Hunk} (h1 : linesFault a = 0) (h2 : hunksFault l = (0, 0)) (hf : firstClash a 0 l = none) : strict a l = if 60 < (backDo a l).length then ([], 0, 3) else (backDo a l, 0, 0) := by
  have hok := (hunksFault_zero (l := l) (by rw [h2])).2
  rw [strict, if_neg (by simp [h1]), if_neg (by simp [h2]), strictGo_back a l 0 0 [] 0 (Nat.zero_le _) hok, hf]
  simp
theorem firstClash_drop : ∀ (a : List ByteArray) (l : List Hunk) (i k : Nat), firstClash a i l = none → firstClash a (i + k) (l.drop k) = none
  | _, _, _, 0, h => by simpa using h
  | a, [], i, k + 1, h => by simp [firstClash]
  | a, x :: r, i, k + 1, h => by
    rw [firstClash] at h
    by_cases hs : standsB a x.old (oldOf x.marks) = true
    · rw [if_pos hs] at h
      have := firstClash_drop a r (i + 1) k h
      rw [List.drop_succ_cons, show i + (k + 1) = i + 1 + k by omega]
      exact this
    · rw [if_neg hs] at h; cases h
theorem back_step {a : List ByteArray} {l : List Hunk} {q : Nat} {x : Hunk} (h2 : hunksFault l = (0, 0)) (hf : firstClash a 0 l = none) (hx : l[q]? = some x) :
    ∃ o : Nat, x.old = o ∧ o ≤ 60 ∧ o + oldN x.marks ≤ (backDo a (l.drop (q + 1))).length ∧ backDo a (l.drop q) = repl (backDo a (l.drop (q + 1))) o (oldN x.marks) (newOf x.marks) := by
  have hok := (hunksFault_zero (l := l) (by rw [h2])).2
  have hs := firstClash_none a l 0 hf x (List.mem_of_getElem? hx)
  obtain ⟨b0, b1⟩ := stands_bound hs
  obtain ⟨o, ho⟩ := Int.eq_ofNat_of_zero_le b0
  rw [ho, Int.toNat_natCast] at b1
  obtain ⟨fin', more', hk, _⟩ := hOk_drop l 0 0 q hok
  rw [drop_eq hx] at hk
  obtain ⟨_, _, z3, _, z5, _⟩ := oneFault_zero hk.1
  have hk2 : hOk ((o + oldN x.marks : Nat) : Int) (more' + newN x.marks - oldN x.marks) (l.drop (q + 1)) := by have := hk.2; rw [ho] at this; push_cast; exact this
  have hfd := firstClash_drop a l 0 (q + 1) hf
  obtain ⟨_, i2⟩ := back_take a _ _ _ _ b1 hk2 hfd
  refine ⟨o, ho, by omega, i2, ?_⟩
  rw [drop_eq hx, backDo_cons, ho, Int.toNat_natCast]

set_option maxHeartbeats 4000000 in
set_option maxRecDepth 100000 in
theorem strictOf_any (a : List ByteArray) (l : List Hunk) (va vl : Value) (w : World) (ha : Rdv w Never va a) (hl : Rdv w Never vl l) :
    Calls Tryz.prog 59 #[va, vl] w fun e w' => ∃ r, e = .returned (.tuple #[r, .int .i64 (strict a l).2.1, .int .i64 (strict a l).2.2]) ∧ Chg Never w w' ∧ Rdv w' Never r (strict a l).1 := by
  by_cases h1 : linesFault a = 0
  · by_cases h2 : (hunksFault l).2 = 0
    · have h2' := hunksFault_first h2
      obtain ⟨hl60, hok⟩ := hunksFault_zero (l := l) h2
      have hla := linesFault_len h1
      have hmem := hOk_mem _ _ _ hok
      have ho60 := hOk_old _ _ _ hok
      have H1 := Lib.hid h1
      have H2 := Lib.hid h2'
      have t1 : (linesFault a != 0) = false := by rw [h1]; rfl
      have hn120 : ∀ x ∈ l, newN x.marks ≤ 120 := fun x hx => Nat.le_trans (newN_le _) (scriptFault_len (hmem x hx))
      obtain ⟨aa, acap, rfl, a1, a2, _⟩ := rdv_slice ha
      obtain ⟨la, lcap, rfl, l1, l2, l3⟩ := rdv_slice hl
      unfold maxLen at a2 l2
      clear h1 h2 h2' hok
      go_enter Tryz.func59, Tryz.ntmps59
      go_wp2_with fail
      refine (refLines_any a _ _ ha).mono ?_
      rintro e w1 ⟨rfl, hw⟩
      rw [H1.out]
      go_wp2_with fail
      refine (refHunks_any l _ _ (hl.never hw)).mono ?_
      rintro e w2 ⟨rfl, hc2⟩
      have hw := hw.trans hc2
      clear hc2
      rw [H2.out]
      go_wp2_with fail
      go_loopw [9] (fun i wr => ∃ k : Nat, k ≤ l.length ∧ i = .int .i64 k ∧ Chg Never w wr ∧ Hid (firstClash a 0 l = firstClash a k (l.drop k))) (fun i _ => l.length - (intOf i).toNat)
      case atStart => exact ⟨0, Nat.zero_le _, rfl, hw, rfl⟩
      case round =>
        clear hw
        obtain ⟨k, hk, rfl, hc, hf⟩ := hrel
        by_cases hlt : k < l.length
        · obtain ⟨x, hx⟩ : ∃ x, l[k]? = some x := ⟨l[k], by simp [hlt]⟩
          obtain ⟨b, off, mv, rfl, _, _, c0, c1, c2, hmv⟩ := elems_hunk l3 hx
          have c0 := hc.cellNever c0
          have c2 := hc.cellNever c2
          have hmv := hmv.never hc
          have hav := ha.never hc
          have HSF := Lib.hid (hmem x (List.mem_of_getElem? hx))
          have hml := scriptFault_len HSF.out
          have hol : (those x.marks 43).length ≤ 120 := Nat.le_trans (those_le _ _) hml
          obtain ⟨o0, o1⟩ := ho60 x (List.mem_of_getElem? hx)
          have HX := Lib.hid hx
          have b1 : (k : Int) < l.length := by omega
          clear hx c1 ha hl
          go_wp2_with fail
          cases hs : standsB a x.old (those x.marks 43) with
          | true =>
            have HS := Lib.hid hs
            clear hs l3
            refine wp_region_held_drew (S := fun w' => Chg Never wr w' ∧ w'.cell? ⟨b, off + k * 3, none⟩ = some (.int .i64 x.old) ∧ w'.cell? ⟨b, off + k * 3 + 2, none⟩ = some mv) (by kernel_rfl) ⟨(Chg.refl _ _).drew, c0, c2⟩ (fun hH => ?_)
            refine' tk 0 ?_
            refine' tk 1 ?_
            refine' tk 2 ?_
            refine' tk 3 ?_
            refine' tk 4 ?_
            refine' tk 5 ?_
            refine' tk 6 ?_
            refine' tk 7 ?_
            refine' tk 8 ?_
            refine' tk 9 ?_
            refine' tk 10 ?_
            refine wpAnyH_ready (rs := [11]) (by kernel_rfl) (by simp) ?_
            refine AllReadyH.cons rfl (fun K hK => ?_) AllReadyH.nil
            go_simp
            (go_at_call 90; refine (refOld_any x.marks _ _ (hmv.never (And.left hH)) HSF.out).mono ?_; rintro e wq ⟨rq, rfl, hcq, hrq⟩; have hrO := hrq.sub (O' := Never) (fun _ _ h => h.elim); clear hrq; obtain ⟨oa, oc, rfl, _, _, _⟩ := rdv_slice hrO; have hS2 := cells2_keep hH hcq; clear hH hcq)
            try go_wp2_with fail
            refine hK.out _ _ ?_ (fun hH => ?_)
            · assumption
            clear hK K
            try simp only [Act.put, List.setIfInBounds_toArray, List.set_cons_zero, List.set_cons_succ]
            refine wpAnyH_ready (rs := [12]) (by kernel_rfl) (by simp) ?_
            refine AllReadyH.cons rfl (fun K hK => ?_) AllReadyH.nil
            go_simp
            (go_at_call 93; refine (refStands_any a (those x.marks 43) x.old _ _ _ (hav.never (And.left hH)) hrO (by omega) (by omega) (by omega) (by omega)).mono ?_; rintro e wq2 ⟨rfl, hcq2⟩; have hS3 := cells2_keep hH hcq2; clear hH hcq2; rw [HS.out])
            try go_wp2_with fail
            refine hK.out _ _ ?_ (fun hH => ?_)
            · assumption
            clear hK K
            try simp only [Act.put, List.setIfInBounds_toArray, List.set_cons_zero, List.set_cons_succ]
            refine' tk 13 ?_
            refine wpAnyH_done (by kernel_rfl) ?_ _
            have hcF := hc.trans (And.left hH)
            clear hH c0 c2 hmv hav hrO
            go_wp2_with fail
            go_roundw
            case rel => exact ⟨k + 1, by omega, by go_num, hcF, by rw [Hid, hf.out]; exact firstClash_step HX.out HS.out⟩
            case measure => simp [intOf] <;> omega
          | false =>
            have HS := Lib.hid hs
            have HB := Lib.hid (strict_clash H1.out H2.out (by rw [hf.out]; exact firstClash_hit HX.out HS.out))
            clear hs l3
            refine wp_region_held_drew (S := fun w' => Chg Never wr w' ∧ w'.cell? ⟨b, off + k * 3, none⟩ = some (.int .i64 x.old) ∧ w'.cell? ⟨b, off + k * 3 + 2, none⟩ = some mv) (by kernel_rfl) ⟨(Chg.refl _ _).drew, c0, c2⟩ (fun hH => ?_)
            refine' tk 0 ?_
            refine' tk 1 ?_
            refine' tk 2 ?_
            refine' tk 3 ?_
            refine' tk 4 ?_
            refine' tk 5 ?_
            refine' tk 6 ?_
            refine' tk 7 ?_
            refine' tk 8 ?_
            refine' tk 9 ?_
            refine' tk 10 ?_
            refine wpAnyH_ready (rs := [11]) (by kernel_rfl) (by simp) ?_
            refine AllReadyH.cons rfl (fun K hK => ?_) AllReadyH.nil
            go_simp
            (go_at_call 90; refine (refOld_any x.marks _ _ (hmv.never (And.left hH)) HSF.out).mono ?_; rintro e wq ⟨rq, rfl, hcq, hrq⟩; have hrO := hrq.sub (O' := Never) (fun _ _ h => h.elim); clear hrq; obtain ⟨oa, oc, rfl, _, _, _⟩ := rdv_slice hrO; have hS2 := cells2_keep hH hcq; clear hH hcq)
            try go_wp2_with fail
            refine hK.out _ _ ?_ (fun hH => ?_)
            · assumption
            clear hK K
            try simp only [Act.put, List.setIfInBounds_toArray, List.set_cons_zero, List.set_cons_succ]
            refine wpAnyH_ready (rs := [12]) (by kernel_rfl) (by simp) ?_
            refine AllReadyH.cons rfl (fun K hK => ?_) AllReadyH.nil
            go_simp
            (go_at_call 93; refine (refStands_any a (those x.marks 43) x.old _ _ _ (hav.never (And.left hH)) hrO (by omega) (by omega) (by omega) (by omega)).mono ?_; rintro e wq2 ⟨rfl, hcq2⟩; have hS3 := cells2_keep hH hcq2; clear hH hcq2; rw [HS.out])
            try go_wp2_with fail
            refine hK.out _ _ ?_ (fun hH => ?_)
            · assumption
            clear hK K
            try simp only [Act.put, List.setIfInBounds_toArray, List.set_cons_zero, List.set_cons_succ]
            refine' tk 13 ?_
            refine wpAnyH_done (by kernel_rfl) ?_ _
            have hcF := hc.trans (And.left hH)
            clear hH c0 c2 hmv hav hrO
            go_wp2_with fail
            go_ret3
            exact ⟨.slice none 0 0, by rw [HB.out]; rfl, hcF, by rw [HB.out]; exact rdv_nil _ _⟩
        · obtain rfl : k = l.length := by omega
          have HFC : Hid (firstClash a 0 l = none) := by rw [Hid, hf.out, List.drop_length]; rfl
          have HST := Lib.hid (strict_back H1.out H2.out HFC.out)
          clear hf hlt hk
          go_wp2_with fail
          go_loopw [11, 12] (fun o i wr => ∃ (y : Int) (oa : Option Addr) (oc : Nat), -1 ≤ y ∧ y < l.length ∧ i = .int .i64 y ∧ Chg Never w wr ∧ o = .slice oa (backDo a (l.drop (y + 1).toNat)).length oc ∧ Rdv wr Never o (backDo a (l.drop (y + 1).toNat))) (fun _ i _ => (intOf i + 1).toNat)
          case atStart => exact ⟨(l.length : Int) - 1, _, _, by omega, by omega, rfl, hc, by rw [show ((l.length : Int) - 1 + 1).toNat = l.length by omega, List.drop_length]; rfl, by rw [show ((l.length : Int) - 1 + 1).toNat = l.length by omega, List.drop_length]; exact ha.never hc⟩
          case round =>
            clear hc
            obtain ⟨y, oa, oc, hy0, hy1, rfl, hc, rfl, hov⟩ := hrel
            by_cases hy : 0 ≤ y
            · obtain ⟨k, rfl⟩ := Int.eq_ofNat_of_zero_le hy
              rw [show ((k : Int) + 1).toNat = k + 1 by omega] at hov ⊢
              have hlt : k < l.length := by omega
              obtain ⟨x, hx⟩ : ∃ x, l[k]? = some x := ⟨l[k], by simp [hlt]⟩
              obtain ⟨b, off, mv, rfl, _, _, c0, c1, c2, hmv⟩ := elems_hunk l3 hx
              have c0 := hc.cellNever c0
              have c2 := hc.cellNever c2
              have hmv := hmv.never hc
              have HSF := Lib.hid (hmem x (List.mem_of_getElem? hx))
              have hml := scriptFault_len HSF.out
              have hol : (those x.marks 43).length ≤ 120 := Nat.le_trans (those_le _ _) hml
              have hnl : (those x.marks 45).length ≤ 120 := Nat.le_trans (those_le _ _) hml
              obtain ⟨o, ho, ho6, hole, hbk⟩ := back_step H2.out HFC.out hx
              have HBK := Lib.hid hbk
              have hbl := backDo_length a (l.drop (k + 1)) (fun z hz => hn120 z (List.mem_of_mem_drop hz))
              rw [List.length_drop] at hbl
              have eo : oldN x.marks = (those x.marks 43).length := rfl
              have en : newOf x.marks = those x.marks 45 := rfl
              rw [ho] at c0
              clear hx c1 l3 ha hl hbk
              generalize backDo a (l.drop (k + 1)) = BK at *
              go_wp2_with fail
              refine wp_region_held_drew (S := fun w' => Chg Never wr w' ∧ w'.cell? ⟨b, off + k * 3, none⟩ = some (.int .i64 (o : Int)) ∧ w'.cell? ⟨b, off + k * 3 + 2, none⟩ = some mv) (by kernel_rfl) ⟨(Chg.refl _ _).drew, c0, c2⟩ (fun hH => ?_)
              refine' tk 0 ?_
              refine' tk 1 ?_
              refine' tk 2 ?_
              refine' tk 3 ?_
              refine' tk 4 ?_
              refine' tk 5 ?_
              refine' tk 6 ?_
              refine' tk 7 ?_
              refine' tk 8 ?_
              refine' tk 9 ?_
              refine' tk 10 ?_
              refine' tk 13 ?_
              refine' tk 14 ?_
              refine' tk 15 ?_
              refine' tk 16 ?_
              refine' tk 17 ?_
              refine wpAnyH_ready (rs := [11]) (by kernel_rfl) (by simp) ?_
              refine AllReadyH.cons rfl (fun K hK => ?_) AllReadyH.nil
              go_simp
              (go_at_call 90; refine (refOld_any x.marks _ _ (hmv.never (And.left hH)) HSF.out).mono ?_; rintro e wq ⟨rq, rfl, hcq, hrq⟩; obtain ⟨qa, qc, rfl, _, _, _⟩ := rdv_slice hrq; have hS2 := cells2_keep hH hcq; clear hH hcq hrq)
              try go_wp2_with fail
              refine hK.out _ _ ?_ (fun hH => ?_)
              · assumption
              clear hK K
              try simp only [Act.put, List.setIfInBounds_toArray, List.set_cons_zero, List.set_cons_succ]
              refine' tk 12 ?_
              refine wpAnyH_ready (rs := [18]) (by kernel_rfl) (by simp) ?_
              refine AllReadyH.cons rfl (fun K hK => ?_) AllReadyH.nil
              go_simp
              (go_at_call 91; refine (refNew_any x.marks _ _ (hmv.never (And.left hH)) HSF.out).mono ?_; rintro e wq2 ⟨rq2, rfl, hcq2, hrq2⟩; have hrN := hrq2.sub (O' := Never) (fun _ _ h => h.elim); obtain ⟨na, nc, rfl, _, _, _⟩ := rdv_slice hrN; have hS3 := cells2_keep hH hcq2; clear hH hcq2 hrq2)
              try go_wp2_with fail
              refine hK.out _ _ ?_ (fun hH => ?_)
              · assumption
              clear hK K
              try simp only [Act.put, List.setIfInBounds_toArray, List.set_cons_zero, List.set_cons_succ]
              refine wpAnyH_ready (rs := [19]) (by kernel_rfl) (by simp) ?_
              refine AllReadyH.cons rfl (fun K hK => ?_) AllReadyH.nil
              go_simp
              (go_at_call 94; refine (replaced_any BK (those x.marks 45) o (those x.marks 43).length _ _ _ (hov.never (And.left hH)) hrN (by omega) (by omega) (by omega)).mono ?_; rintro e wq3 ⟨rq3, rfl, hcq3, hrq3⟩; have hrR := hrq3.sub (O' := Never) (fun _ _ h => h.elim); obtain ⟨ra, rc, rfl, _, _, _⟩ := rdv_slice hrR; have hS4 := cells2_keep hH hcq3; clear hH hcq3 hrq3)
              try go_wp2_with fail
              refine hK.out _ _ ?_ (fun hH => ?_)
              · assumption
              clear hK K
              try simp only [Act.put, List.setIfInBounds_toArray, List.set_cons_zero, List.set_cons_succ]
              refine' tk 20 ?_
              refine wpAnyH_done (by kernel_rfl) ?_ _
              have hcF := hc.trans (And.left hH)
              clear hH c0 c2 hmv hov hrN
              have hE : repl BK o (those x.marks 43).length (those x.marks 45) = backDo a (l.drop k) := by rw [HBK.out, eo, en]
              rw [hE] at hrR ⊢
              go_wp2_with fail
              go_roundw
              case rel => exact ⟨(k : Int) - 1, ra, rc, by omega, by omega, rfl, hcF, by rw [show ((k : Int) - 1 + 1).toNat = k by omega], by rw [show ((k : Int) - 1 + 1).toNat = k by omega]; exact hrR⟩
              case measure => simp [intOf] <;> omega
            · obtain rfl : y = -1 := by omega
              rw [show ((-1 : Int) + 1).toNat = 0 from rfl, List.drop_zero] at hov ⊢
              have hbl := backDo_length a l hn120
              generalize backDo a l = BK at *
              by_cases h60 : 60 < BK.length
              · have HE : Hid (strict a l = ([], 0, 3)) := by rw [Hid, HST.out, if_pos h60]
                go_wp2_with fail
                go_ret3
                exact ⟨.slice none 0 0, by rw [HE.out]; rfl, hc, by rw [HE.out]; exact rdv_nil _ _⟩
              · have HE : Hid (strict a l = (BK, 0, 0)) := by rw [Hid, HST.out, if_neg h60]
                go_wp2_with fail
                go_ret3
                exact ⟨_, by rw [HE.out]; rfl, hc, by rw [HE.out]; exact hov⟩
    · have HS : Hid (strict a l = ([], (hunksFault l).1, (hunksFault l).2)) := by unfold Hid strict; rw [if_neg (by simp [h1]), if_pos h2]
      have H1 := Lib.hid h1
      have t2 : ((hunksFault l).2 != 0) = true := by simp [h2]
      clear h1 h2
      go_enter Tryz.func59, Tryz.ntmps59
      go_wp2_with fail
      refine (refLines_any a _ _ ha).mono ?_
      rintro e w1 ⟨rfl, hw⟩
      rw [H1.out]
      go_wp2_with fail
      refine (refHunks_any l _ _ (hl.never hw)).mono ?_
      rintro e w2 ⟨rfl, hc2⟩
      have hw := hw.trans hc2
      clear hc2
      go_wp2_with fail
      go_ret3
      exact ⟨.slice none 0 0, by rw [HS.out]; rfl, hw, by rw [HS.out]; exact rdv_nil _ _⟩
  · have HS : Hid (strict a l = ([], 0, linesFault a)) := if_pos h1
    have t1 : (linesFault a != 0) = true := by simp [h1]
    clear h1
    go_enter Tryz.func59, Tryz.ntmps59
    go_wp2_with fail
    refine (refLines_any a _ _ ha).mono ?_
    rintro e w1 ⟨rfl, hw⟩
    go_wp2_with fail
    go_ret3
    exact ⟨.slice none 0 0, by rw [HS.out]; rfl, hw, by rw [HS.out]; exact rdv_nil _ _⟩
end Go.Proofs.YtmjpfoeaobdaeaaGreatDoor
namespace Go.Proofs.YtmjpfoeaobdaeaaGreatDoor
open Go.RowKit

def doneR (there : Bool) (L : List ByteArray) (c : Change) : List ByteArray × Bool × Int :=
  if c.what = 2 ∧ there = true then ([], false, 6)
  else if c.what ≠ 2 ∧ there = false then ([], false, 4)
  else if (strict L c.hunks).2.2 ≠ 0 then ([], false, (strict L c.hunks).2.2)
  else if c.what = 3 ∧ (strict L c.hunks).1 ≠ [] then ([], false, 6)
  else ((strict L c.hunks).1, decide (c.what ≠ 3), 0)
theorem done_step (x : Option (List ByteArray)) (c : Change) : stepOf x c = (if (doneR x.isSome (x.getD []) c).2.1 = true then some (doneR x.isSome (x.getD []) c).1 else none, (doneR x.isSome (x.getD []) c).2.2) := by
  unfold stepOf doneR
  by_cases h1 : c.what = 2 ∧ x.isSome = true
  · rw [if_pos h1, if_pos h1]; rfl
  · rw [if_neg h1, if_neg h1]
    by_cases h2 : c.what ≠ 2 ∧ x.isSome = false
    · rw [if_pos h2, if_pos h2]; rfl
    · rw [if_neg h2, if_neg h2]
      by_cases h3 : (strict (x.getD []) c.hunks).2.2 ≠ 0
      · rw [if_pos h3, if_pos h3]; rfl
      · rw [if_neg h3, if_neg h3]
        by_cases h4 : c.what = 3
        · by_cases h5 : (strict (x.getD []) c.hunks).1 = []
          · simp [h4, h5]
          · simp [h4, h5]
        · simp [h4]
theorem done_clash {there : Bool} {L : List ByteArray} {c : Change} (h : c.what = 2 ∧ there = true) : doneR there L c = ([], false, 6) := if_pos h
theorem done_none {there : Bool} {L : List ByteArray} {c : Change} (h : c.what ≠ 2 ∧ there = false) : doneR there L c = ([], false, 4) := by unfold doneR; rw [if_neg (fun g => h.1 g.1), if_pos h]
theorem done_bad {there : Bool} {L : List ByteArray} {c : Change} (h1 : ¬ (c.what = 2 ∧ there = true)) (h2 : ¬ (c.what ≠ 2 ∧ there = false)) (h : (strict L c.hunks).2.2 ≠ 0) : doneR there L c = ([], false, (strict L c.hunks).2.2) := by unfold doneR; rw [if_neg h1, if_neg h2, if_pos h]
theorem done_left {there : Bool} {L : List ByteArray} {c : Change} (h1 : ¬ (c.what = 2 ∧ there = true)) (h2 : ¬ (c.what ≠ 2 ∧ there = false)) (h : (strict L c.hunks).2.2 = 0) (g : c.what = 3 ∧ (strict L c.hunks).1 ≠ []) : doneR there L c = ([], false, 6) := by unfold doneR; rw [if_neg h1, if_neg h2, if_neg (by rw [h]; decide), if_pos g]
theorem done_good {there : Bool} {L : List ByteArray} {c : Change} (h1 : ¬ (c.what = 2 ∧ there = true)) (h2 : ¬ (c.what ≠ 2 ∧ there = false)) (h : (strict L c.hunks).2.2 = 0) (g : ¬ (c.what = 3 ∧ (strict L c.hunks).1 ≠ [])) : doneR there L c = ((strict L c.hunks).1, decide (c.what ≠ 3), 0) := by unfold doneR; rw [if_neg h1, if_neg h2, if_neg (by rw [h]; decide), if_neg g]
def DonePost (there : Bool) (L : List ByteArray) (c : Change) (w : World) (e : Ending) (w' : World) : Prop := ∃ r, e = .returned (.tuple #[r, .bool (doneR there L c).2.1, errV (doneR there L c).2.2]) ∧ Chg Never w w' ∧ Rdv w' (Old w.heap.size) r (doneR there L c).1
theorem donePost_bad {there : Bool} {L : List ByteArray} {c : Change} {w w' : World} {k : Int} (h : doneR there L c = ([], false, k)) (hc : Chg Never w w') : DonePost there L c w (.returned (.tuple #[.slice none 0 0, .bool false, errV k])) w' :=
  ⟨_, by rw [h], hc, by rw [h]; exact rdv_nil _ _⟩
theorem donePost_ok {there b : Bool} {L R : List ByteArray} {c : Change} {w w' : World} {r : Value} (h : doneR there L c = (R, b, 0)) (hc : Chg Never w w') (hr : Rdv w' (Old w.heap.size) r R) : DonePost there L c w (.returned (.tuple #[r, .bool b, .nilIface])) w' :=
  ⟨_, by rw [h]; rfl, hc, by rw [h]; exact hr⟩
set_option maxHeartbeats 2000000 in
set_option maxRecDepth 100000 in
theorem done_go (there : Bool) (L : List ByteArray) (wh : Int) (pa : ByteArray) (hs : List Hunk) (lv hv : Value) (w : World) (hL : Rdv w Never lv L) (hh : Rdv w Never hv hs) :
    Calls Tryz.prog 86 #[lv, .bool there, .agg #[.int .i64 wh, .string pa, hv]] w fun e w' => DonePost there L ⟨wh, pa, hs⟩ w e w' := by
  obtain ⟨a, cap, rfl, h1, h2, _⟩ := rdv_slice hh
  obtain ⟨la, lcap, rfl, _, _, _⟩ := rdv_slice hL
  by_cases k2 : wh = 2
  · subst k2
    obtain ⟨hA, b0, b1, b2⟩ := box1_change w 100 2 pa (.slice a hs.length cap) _ rfl
    cases there with
    | true =>
      have HG := Lib.hid (donePost_bad (w := w) (done_clash (L := L) (c := ⟨2, pa, hs⟩) ⟨rfl, rfl⟩) hA)
      go_enter Tryz.func86, Tryz.ntmps86
      go_wp2_with fail
      go_ret3
      have E := HG.out
      rw [errV_pos (by decide)] at E
      exact E
    | false =>
      have n1 : ¬ ((⟨2, pa, hs⟩ : Change).what = 2 ∧ false = true) := fun h => by cases h.2
      have n2 : ¬ ((⟨2, pa, hs⟩ : Change).what ≠ 2 ∧ false = false) := fun h => h.1 rfl
      by_cases z : (strict L hs).2.2 = 0
      · have HG : Hid (doneR false L ⟨2, pa, hs⟩ = ((strict L hs).1, true, 0)) := done_good n1 n2 z (fun h => absurd (show (2 : Int) = 3 from h.1) (by decide))
        have ZS := Lib.hid z
        clear z n1 n2
        go_enter Tryz.func86, Tryz.ntmps86
        go_wp2_with fail
        generalize w.alloc (.cells #[.int .i64 2, .string pa, .slice a hs.length cap] 100) = wA at hA b0 b1 b2 ⊢
        refine (strict_any L hs _ _ _ (hL.never hA) (hh.never hA)).mono ?_
        rintro e w2 ⟨r, rfl, hc2, hr⟩
        have hw := hA.trans hc2
        have b0 := hc2.cellNever b0
        have hr := hr.sub (O' := Old w.heap.size) (fun k _ h => Nat.lt_of_lt_of_le h hA.size)
        clear hc2 b1 b2
        skip
        obtain ⟨ra, rc, rfl, _, _, _⟩ := rdv_slice hr
        rw [ZS.out, errV_zero]
        go_wp2_with fail
        go_quiet (fail)
        go_wp2_with fail
        go_ret3
        exact donePost_ok HG.out (hw.drewN _) (hr.never ((Chg.refl Never _).drewN _))
      · have HG := Lib.hid (done_bad n1 n2 z)
        have ZS := Lib.hid z
        clear z n1 n2
        go_enter Tryz.func86, Tryz.ntmps86
        go_wp2_with fail
        generalize w.alloc (.cells #[.int .i64 2, .string pa, .slice a hs.length cap] 100) = wA at hA b0 b1 b2 ⊢
        refine (strict_any L hs _ _ _ (hL.never hA) (hh.never hA)).mono ?_
        rintro e w2 ⟨r, rfl, hc2, hr⟩
        have hw := hA.trans hc2
        have b0 := hc2.cellNever b0
        have hr := hr.sub (O' := Old w.heap.size) (fun k _ h => Nat.lt_of_lt_of_le h hA.size)
        clear hc2 b1 b2
        skip
        obtain ⟨ra, rc, rfl, _, _, _⟩ := rdv_slice hr
        rw [errV_pos ZS.out]
        clear b0
        go_wp2_with fail
        go_ret3
        have E := donePost_bad HG.out hw
        rw [errV_pos ZS.out] at E
        exact E
  · have t2 : (wh == 2) = false := by simp [k2]
    have t2' : (wh != 2) = true := by simp [k2]
    obtain ⟨hA, b0, b1, b2⟩ := box1_change w 100 wh pa (.slice a hs.length cap) _ rfl
    cases there with
    | false =>
      have HG := Lib.hid (donePost_bad (w := w) (done_none (L := L) (c := ⟨wh, pa, hs⟩) ⟨k2, rfl⟩) hA)
      clear k2
      go_enter Tryz.func86, Tryz.ntmps86
      go_wp2_with fail
      go_ret3
      have E := HG.out
      rw [errV_pos (by decide)] at E
      exact E
    | true =>
      have n1 : ¬ ((⟨wh, pa, hs⟩ : Change).what = 2 ∧ true = true) := fun h => k2 h.1
      have n2 : ¬ ((⟨wh, pa, hs⟩ : Change).what ≠ 2 ∧ true = false) := fun h => by cases h.2
      by_cases z : (strict L hs).2.2 = 0
      · have ZS := Lib.hid z
        by_cases k3 : wh = 3
        · subst k3
          by_cases h0 : (strict L hs).1 = []
          · have HG : Hid (doneR true L ⟨3, pa, hs⟩ = ([], false, 0)) := (done_good n1 n2 z (fun h => h.2 h0)).trans (by rw [show (strict L (⟨3, pa, hs⟩ : Change).hunks).1 = [] from h0]; rfl)
            have H0 := Lib.hid h0
            clear z n1 n2 k2 h0 t2 t2'
            go_enter Tryz.func86, Tryz.ntmps86
            go_wp2_with fail
            generalize w.alloc (.cells #[.int .i64 3, .string pa, .slice a hs.length cap] 100) = wA at hA b0 b1 b2 ⊢
            refine (strict_any L hs _ _ _ (hL.never hA) (hh.never hA)).mono ?_
            rintro e w2 ⟨r, rfl, hc2, hr⟩
            have hw := hA.trans hc2
            have b0 := hc2.cellNever b0
            have hr := hr.sub (O' := Old w.heap.size) (fun k _ h => Nat.lt_of_lt_of_le h hA.size)
            clear hc2 b1 b2
            rw [H0.out] at hr
            obtain ⟨ra, rc, rfl, _, _, _⟩ := rdv_slice hr
            rw [ZS.out, errV_zero]
            go_wp2_with fail
            go_quiet (fail)
            go_wp2_with fail
            go_ret3
            exact donePost_ok HG.out (hw.drewN _) (hr.never ((Chg.refl Never _).drewN _))
          · have HG := Lib.hid (done_left n1 n2 z ⟨rfl, h0⟩)
            have hpos : 0 < (strict L hs).1.length := List.length_pos_iff.2 h0
            clear z n1 n2 k2 h0 t2 t2'
            go_enter Tryz.func86, Tryz.ntmps86
            go_wp2_with fail
            generalize w.alloc (.cells #[.int .i64 3, .string pa, .slice a hs.length cap] 100) = wA at hA b0 b1 b2 ⊢
            refine (strict_any L hs _ _ _ (hL.never hA) (hh.never hA)).mono ?_
            rintro e w2 ⟨r, rfl, hc2, hr⟩
            have hw := hA.trans hc2
            have b0 := hc2.cellNever b0
            have hr := hr.sub (O' := Old w.heap.size) (fun k _ h => Nat.lt_of_lt_of_le h hA.size)
            clear hc2 b1 b2
            skip
            obtain ⟨ra, rc, rfl, _, _, _⟩ := rdv_slice hr
            rw [ZS.out, errV_zero]
            go_wp2_with fail
            all_goals first | (go_ret3; have E := donePost_bad HG.out hw; rw [errV_pos (by decide)] at E; exact E) | skip
        · have t3 : (wh == 3) = false := by simp [k3]
          have HG : Hid (doneR true L ⟨wh, pa, hs⟩ = ((strict L hs).1, wh != 3, 0)) := (done_good n1 n2 z (fun h => k3 h.1)).trans (by rw [show decide ((⟨wh, pa, hs⟩ : Change).what ≠ 3) = true from decide_eq_true k3, show (wh != 3) = true by simp [k3]])
          clear z n1 n2 k2 k3
          go_enter Tryz.func86, Tryz.ntmps86
          go_wp2_with fail
          generalize w.alloc (.cells #[.int .i64 wh, .string pa, .slice a hs.length cap] 100) = wA at hA b0 b1 b2 ⊢
          refine (strict_any L hs _ _ _ (hL.never hA) (hh.never hA)).mono ?_
          rintro e w2 ⟨r, rfl, hc2, hr⟩
          have hw := hA.trans hc2
          have b0 := hc2.cellNever b0
          have hr := hr.sub (O' := Old w.heap.size) (fun k _ h => Nat.lt_of_lt_of_le h hA.size)
          clear hc2 b1 b2
          skip
          obtain ⟨ra, rc, rfl, _, _, _⟩ := rdv_slice hr
          rw [ZS.out, errV_zero]
          go_wp2_with fail
          go_quiet (fail)
          go_wp2_with fail
          go_ret3
          exact donePost_ok HG.out (hw.drewN _) (hr.never ((Chg.refl Never _).drewN _))
      · clear k2
        have HG := Lib.hid (done_bad n1 n2 z)
        have ZS := Lib.hid z
        clear z n1 n2
        go_enter Tryz.func86, Tryz.ntmps86
        go_wp2_with fail
        generalize w.alloc (.cells #[.int .i64 wh, .string pa, .slice a hs.length cap] 100) = wA at hA b0 b1 b2 ⊢
        refine (strict_any L hs _ _ _ (hL.never hA) (hh.never hA)).mono ?_
        rintro e w2 ⟨r, rfl, hc2, hr⟩
        have hw := hA.trans hc2
        have b0 := hc2.cellNever b0
        have hr := hr.sub (O' := Old w.heap.size) (fun k _ h => Nat.lt_of_lt_of_le h hA.size)
        clear hc2 b1 b2
        skip
        obtain ⟨ra, rc, rfl, _, _, _⟩ := rdv_slice hr
        rw [errV_pos ZS.out]
        clear b0
        go_wp2_with fail
        go_ret3
        have E := donePost_bad HG.out hw
        rw [errV_pos ZS.out] at E
        exact E
theorem done_any (there : Bool) (L : List ByteArray) (c : Change) (lv hv : Value) (w : World) (hL : Rdv w Never lv L) (hh : Rdv w Never hv c.hunks) :
    Calls Tryz.prog 86 #[lv, .bool there, .agg #[.int .i64 c.what, .string c.path, hv]] w fun e w' => DonePost there L c w e w' := done_go there L c.what c.path c.hunks lv hv w hL hh
end Go.Proofs.YtmjpfoeaobdaeaaGreatDoor
namespace Go.Proofs.YtmjpfoeaobdaeaaGreatDoor
open Go.RowKit

def insAt (T : List File) (i : Nat) (f : File) : List File := T.take i ++ f :: T.drop i
theorem apply_step {T : List File} {p : List Change} {k : Nat} {c : Change} (hd : p.drop k = c :: p.drop (k + 1)) (hz : (stepOf (look T c.path) c).2 = 0) : applyGo k T (p.drop k) = applyGo (k + 1) (setAt T c.path (stepOf (look T c.path) c).1) (p.drop (k + 1)) := by
  rw [hd, applyGo, if_neg (by rw [hz]; decide)]
theorem apply_bad {T : List File} {p : List Change} {k : Nat} {c : Change} (hd : p.drop k = c :: p.drop (k + 1)) (hz : (stepOf (look T c.path) c).2 ≠ 0) : applyGo k T (p.drop k) = ([], k, (stepOf (look T c.path) c).2) := by
  rw [hd, applyGo, if_pos hz]
theorem apply_end {T : List File} {p : List Change} : applyGo p.length T (p.drop p.length) = (T, 0, 0) := by rw [List.drop_length]; rfl
theorem find_is {T : List File} (hs : Sorted T) {p : ByteArray} (h : isAt T p = true) : ∃ f, T[posOf T p]? = some f ∧ f.path = p ∧ look T p = some f.lines ∧ posOf T p < T.length := by
  unfold isAt at h
  cases hf : T[posOf T p]? with
  | none => rw [hf] at h; cases h
  | some f =>
    rw [hf, Option.any_some] at h
    have hp := of_decide_eq_true h
    have := look_mem hs (List.mem_of_getElem? hf)
    rw [hp] at this
    exact ⟨f, rfl, hp, this, (List.getElem?_eq_some_iff.1 hf).1⟩
theorem find_not {T : List File} (hs : Sorted T) {p : ByteArray} (h : isAt T p = false) : look T p = none ∧ posOf T p ≤ T.length := by
  obtain ⟨A, C, h1, h2, _, _, h5, h6⟩ := tree_split hs p
  rcases h6 with ⟨h6, _⟩ | ⟨_, rfl⟩
  · rw [h6] at h; cases h
  · refine ⟨look_none fun x hx => ?_, by rw [h5, List.length_append]; omega⟩
    rcases List.mem_append.1 hx with hx | hx
    · exact less_ne (h1 x hx)
    · exact (less_ne (h2 x hx)).symm
theorem set_put {T : List File} {p : ByteArray} {l : List ByteArray} (h : isAt T p = false) : setAt T p (some l) = insAt T (posOf T p) ⟨p, l⟩ := by
  show putAt T ⟨p, l⟩ = _
  unfold putAt insAt
  rw [if_neg (by rw [h]; decide)]
theorem set_edit {T : List File} {p : ByteArray} {l : List ByteArray} (h : isAt T p = true) (hl : posOf T p < T.length) : setAt T p (some l) = insAt (dropAt T (posOf T p)) (posOf T p) ⟨p, l⟩ := by
  show putAt T ⟨p, l⟩ = _
  unfold putAt insAt dropAt
  have e : (T.take (posOf T p)).length = posOf T p := by rw [List.length_take]; omega
  rw [if_pos h]
  show _ = (T.take (posOf T p) ++ T.drop (posOf T p + 1)).take (posOf T p) ++ ⟨p, l⟩ :: (T.take (posOf T p) ++ T.drop (posOf T p + 1)).drop (posOf T p)
  congr 1
  · conv => rhs; arg 1; rw [← e]
    rw [List.take_left]
  · congr 1
    conv => rhs; arg 1; rw [← e]
    rw [List.drop_left]
theorem ins_len {T : List File} {i : Nat} {f : File} (h : i ≤ T.length) : (insAt T i f).length = T.length + 1 := by unfold insAt; rw [List.length_append, List.length_take, List.length_cons, List.length_drop]; omega
theorem drop_len {T : List File} {i : Nat} (h : i < T.length) : (dropAt T i).length = T.length - 1 := by unfold dropAt; rw [List.length_append, List.length_take, List.length_drop]; omega
theorem done_ok {there : Bool} {L : List ByteArray} {c : Change} (z : (doneR there L c).2.2 = 0) : (c.what = 2 → there = false) ∧ (c.what ≠ 2 → there = true) ∧ (doneR there L c).2.1 = decide (c.what ≠ 3) := by
  unfold doneR at z ⊢
  by_cases h1 : c.what = 2 ∧ there = true
  · rw [if_pos h1] at z; cases z
  · rw [if_neg h1] at z ⊢
    by_cases h2 : c.what ≠ 2 ∧ there = false
    · rw [if_pos h2] at z; cases z
    · rw [if_neg h2] at z ⊢
      by_cases h3 : (strict L c.hunks).2.2 ≠ 0
      · rw [if_pos h3] at z; exact absurd z h3
      · rw [if_neg h3] at z ⊢
        by_cases h4 : c.what = 3 ∧ (strict L c.hunks).1 ≠ []
        · rw [if_pos h4] at z; cases z
        · rw [if_neg h4]
          refine ⟨fun e => ?_, fun e => ?_, rfl⟩
          · cases there with
            | false => rfl
            | true => exact absurd ⟨e, rfl⟩ h1
          · cases there with
            | true => rfl
            | false => exact absurd ⟨e, rfl⟩ h2
theorem applyR_tree {t : List File} {p : List Change} (h : (treeFault t).2 ≠ 0) : applyR t p = ([], 0, (treeFault t).2) := if_pos h
theorem applyR_patch {t : List File} {p : List Change} (h : (treeFault t).2 = 0) (g : (patchFault p).2 ≠ 0) : applyR t p = ([], (patchFault p).1, (patchFault p).2) := by unfold applyR; rw [if_neg (by rw [h]; decide), if_pos g]
theorem applyR_go {t : List File} {p : List Change} (h : (treeFault t).2 = 0) (g : (patchFault p).2 = 0) {r : List File} {k : Nat} {e : Int} (x : applyGo 0 t p = (r, k, e)) : applyR t p = if e ≠ 0 then (r, k, e) else if 8 < r.length then ([], 0, 3) else (r, 0, 0) := by
  unfold applyR; rw [if_neg (by rw [h]; decide), if_neg (by rw [g]; decide), x]
end Go.Proofs.YtmjpfoeaobdaeaaGreatDoor
namespace Go.Proofs.YtmjpfoeaobdaeaaGreatDoor
open Go.RowKit

theorem placeT_is {t : List File} (h : Sorted t) {p : ByteArray} (hi : isAt t p = true) : placeI t p = posOf t p := by
  unfold placeI; rw [placeOf_sorted h, if_pos hi]
theorem placeT_not {t : List File} (h : Sorted t) {p : ByteArray} (hi : isAt t p = false) : placeI t p = -1 := by
  unfold placeI; rw [placeOf_sorted h, if_neg (by rw [hi]; decide)]
def RefApPost (t : List File) (p : List Change) (w : World) (e : Ending) (w' : World) : Prop := ∃ r, e = .returned (.tuple #[r, .int .i64 (applyR t p).2.1, .int .i64 (applyR t p).2.2]) ∧ Chg Never w w' ∧ Rdv w' Never r (applyR t p).1
theorem rap_bad {t : List File} {p : List Change} {k : Nat} {e : Int} {w w' : World} (h : applyR t p = ([], k, e)) (hc : Chg Never w w') : RefApPost t p w (.returned (.tuple #[.slice none 0 0, .int .i64 k, .int .i64 e])) w' :=
  ⟨_, by rw [h], hc, by rw [h]; exact rdv_nil _ _⟩
theorem rap_ok {t R : List File} {p : List Change} {w w' : World} {r : Value} (h : applyR t p = (R, 0, 0)) (hc : Chg Never w w') (hr : Rdv w' Never r R) : RefApPost t p w (.returned (.tuple #[r, .int .i64 0, .int .i64 0])) w' :=
  ⟨r, by rw [h]; rfl, hc, by rw [h]; exact hr⟩
theorem apply_ret {t T : List File} {p : List Change} {k : Nat} {c : Change} {F : Int} (z : (treeFault t).2 = 0) (y : (patchFault p).2 = 0) (hG : applyGo k T (p.drop k) = applyGo 0 t p) (hd : p.drop k = c :: p.drop (k + 1)) (hst : (stepOf (look T c.path) c).2 = F) (hF : F ≠ 0) : applyR t p = ([], k, F) := by
  subst hst
  rw [applyR_go z y (hG.symm.trans (apply_bad hd hF)), if_pos hF]
theorem step_done {T : List File} {c : Change} {there : Bool} {L : List ByteArray} {x : Option (List ByteArray)} (hl : look T c.path = x) (h1 : x.isSome = there) (h2 : x.getD [] = L) : stepOf (look T c.path) c = (if (doneR there L c).2.1 = true then some (doneR there L c).1 else none, (doneR there L c).2.2) := by
  rw [hl, done_step, h1, h2]
set_option maxHeartbeats 8000000 in
set_option maxRecDepth 100000 in
theorem refApply_any (t : List File) (p : List Change) (vt vp : Value) (w : World) (ht : Rdv w Never vt t) (hp : Rdv w Never vp p) :
    Calls Tryz.prog 32 #[vt, vp] w fun e w' => RefApPost t p w e w' := by
  obtain ⟨ta, tcap, rfl, _, _, _⟩ := rdv_slice ht
  obtain ⟨pa, pcap, rfl, p1, p2, p3⟩ := rdv_slice hp
  unfold maxLen at p2
  by_cases z : (treeFault t).2 = 0
  · have Z := Lib.hid z
    by_cases y : (patchFault p).2 = 0
    · have Y := Lib.hid y
      have t8 := (treeFault_zero z).1
      have tsrt := Lib.hid (treeFault_zero z).2.2.1
      have pl := (patch_of y).1
      clear z y
      go_enter Tryz.func32, Tryz.ntmps32
      go_wp2_with fail
      refine (refTree_any t _ _ ht).mono ?_
      rintro e w1 ⟨rfl, hw⟩
      rw [Z.out]
      go_wp2_with fail
      refine (refPatch_any p _ _ (hp.never hw)).mono ?_
      rintro e w2 ⟨rfl, hc2⟩
      have hw := hw.trans hc2
      clear hc2
      rw [Y.out]
      have ht0 := ht.never hw
      go_wp2_with fail
      go_loopw [10, 11] (fun v i wr => ∃ (k : Nat) (T : List File), k ≤ p.length ∧ i = .int .i64 k ∧ Chg Never w wr ∧ Rdv wr Never v T ∧ Hid (Sorted T) ∧ T.length ≤ 8 + k ∧ Hid (applyGo k T (p.drop k) = applyGo 0 t p)) (fun _ i _ => p.length - (intOf i).toNat)
      case atStart => exact ⟨0, t, Nat.zero_le _, rfl, hw, ht0, tsrt, by omega, rfl⟩
      case round =>
        clear hw ht0
        rename World => wr
        obtain ⟨k, T, hk, rfl, hc, hT, hS, hTl, hG⟩ := hrel
        obtain ⟨oa, ocap, rfl, o1, o2, o3⟩ := rdv_slice hT
        unfold maxLen at o2
        by_cases hlt : k < p.length
        · obtain ⟨c, hx⟩ : ∃ c, p[k]? = some c := ⟨p[k], by simp [hlt]⟩
          obtain ⟨wh, pt, hs⟩ := c
          obtain ⟨pb, po, hv, hpo, _, _, c0, c1, c2, hpc, hhv⟩ := elems_change p3 hx
          subst hpo
          simp only at c0 c1 c2 hpc hhv
          obtain ⟨ha, hcap, rfl, _, _, _⟩ := rdv_slice hhv
          have hhv := Lib.hid hhv
          have c0 := hc.cellNever c0
          have c1 := hc.cellNever c1
          have c2 := hc.cellNever c2
          have HD := Lib.hid (drop_eq hx)
          obtain ⟨hA, d0, d1, d2⟩ := box1_change wr 100 wh pt (.slice ha hs.length hcap) _ rfl
          clear hx p3
          go_wp2_with fail
          generalize wr.alloc (.cells #[.int .i64 wh, .string pt, .slice ha hs.length hcap] 100) = wA at hA d0 d1 d2 ⊢
          clear c0 c1 c2
          refine (refPlace_any T pt _ _ (hT.never hA)).mono ?_
          rintro e w4 ⟨rfl, hc4⟩
          have hQ := hA.trans hc4
          have hcD := hc.trans hQ
          have hT := hT.never hQ
          have d0 := hc4.cellNever d0
          have d1 := hc4.cellNever d1
          have d2 := hc4.cellNever d2
          clear hA hc4
          cases hi : isAt T pt with
          | true =>
            obtain ⟨f, hf, _, hlk, hpos⟩ := find_is hS.out hi
            rw [placeT_is hS.out hi]
            have DS := Lib.hid (step_done (c := ⟨wh, pt, hs⟩) (there := true) (L := f.lines) hlk rfl rfl)
            obtain ⟨fb, fo, flv, rfl, _, _, _, f1, _, hfl⟩ := elems_file o3 hf
            have f1 := hQ.cellNever f1
            have hfl := hfl.never hQ
            obtain ⟨la, lc, rfl, _, _, _⟩ := rdv_slice hfl
            clear hi hf hlk o3 hQ
            by_cases k2 : wh = 2
            · subst k2
              have HE : Hid (applyR t p = ([], k, 6)) := apply_ret Z.out Y.out hG.out HD.out (by rw [show stepOf (look T pt) ⟨2, pt, hs⟩ = _ from DS.out, done_clash ⟨rfl, rfl⟩]) (by decide)
              clear hG DS
              go_wp2_with fail
              go_ret3
              exact rap_bad HE.out hcD
            · have t2 : (wh == 2) = false := by simp [k2]
              have t2' : (wh != 2) = true := by simp [k2]
              go_wp2_with fail
              refine (strictOf_any f.lines hs _ _ _ (hfl) (hhv.out.never hcD)).mono ?_
              rintro e w6 ⟨r6, rfl, hc6, hr6⟩
              have hcD := hcD.trans hc6
              have hT := hT.never hc6
              have d0 := hc6.cellNever d0
              have d1 := hc6.cellNever d1
              obtain ⟨sa, sc, rfl, _, _, _⟩ := rdv_slice hr6
              clear hc6
              by_cases zz : (strict f.lines hs).2.2 = 0
              · have hrw : ((strict f.lines hs).2.2 != 0) = false := by simp [zz]
                by_cases k3 : wh = 3
                · subst k3
                  by_cases h0 : (strict f.lines hs).1 = []
                  · have HDN : Hid (doneR true f.lines ⟨3, pt, hs⟩ = ([], false, 0)) := (done_good (there := true) (c := ⟨3, pt, hs⟩) (fun h => absurd (show (3 : Int) = 2 from h.1) (by decide)) (fun h => by cases h.2) zz (fun h => h.2 h0)).trans (by rw [show (strict f.lines (⟨3, pt, hs⟩ : Change).hunks).1 = [] from h0]; rfl)
                    have HSET : stepOf (look T pt) ⟨3, pt, hs⟩ = (none, 0) := by rw [show stepOf (look T pt) ⟨3, pt, hs⟩ = _ from DS.out, HDN.out]; rfl
                    have HNX : Hid (applyGo (k + 1) (dropAt T (posOf T pt)) (p.drop (k + 1)) = applyGo 0 t p) := by
                      have e := apply_step (T := T) HD.out (by rw [HSET])
                      rw [show (⟨3, pt, hs⟩ : Change).path = pt from rfl, HSET] at e
                      rw [Hid, ← hG.out]
                      exact e.symm
                    have HSS : Hid (Sorted (dropAt T (posOf T pt))) := setAt_sorted (y := none) hS.out (step_at hS.out HSET)
                    have hdl := drop_len hpos
                    rw [zz]
                    rw [h0] at hr6 ⊢
                    clear HSET hG zz h0 hrw DS k2 t2 t2' f1
                    go_wp2_with fail
                    refine (refDrop_any T (posOf T pt) _ _ hT hpos (by omega)).mono ?_
                    rintro e w7 ⟨r7, rfl, hc7, hr7⟩
                    have hcD := hcD.trans hc7
                    clear hc7 d0 d1 d2 hr6
                    go_wp2_with fail
                    go_roundw
                    case rel => exact ⟨k + 1, _, by omega, by go_num, hcD, hr7, HSS, by omega, HNX⟩
                    case measure => simp [intOf] <;> omega
                  · have HE : Hid (applyR t p = ([], k, 6)) := apply_ret Z.out Y.out hG.out HD.out (by rw [show stepOf (look T pt) ⟨3, pt, hs⟩ = _ from DS.out, done_left (there := true) (c := ⟨3, pt, hs⟩) (fun h => absurd (show (3 : Int) = 2 from h.1) (by decide)) (fun h => by cases h.2) zz ⟨rfl, h0⟩]) (by decide)
                    have hpos : 0 < (strict f.lines hs).1.length := List.length_pos_iff.2 h0
                    rw [zz]
                    clear hG DS zz h0 hrw k2 t2 t2' f1
                    go_wp2_with fail
                    go_ret3
                    exact rap_bad HE.out hcD
                · have t3 : (wh == 3) = false := by simp [k3]
                  have t3' : (wh != 3) = true := by simp [k3]
                  have HDN : Hid (doneR true f.lines ⟨wh, pt, hs⟩ = ((strict f.lines hs).1, true, 0)) := (done_good (there := true) (c := ⟨wh, pt, hs⟩) (fun h => k2 h.1) (fun h => by cases h.2) zz (fun h => k3 h.1)).trans (by rw [show decide ((⟨wh, pt, hs⟩ : Change).what ≠ 3) = true from decide_eq_true k3])
                  rw [zz]
                  clear zz k2 k3 hrw f1
                  have HSET : stepOf (look T pt) ⟨wh, pt, hs⟩ = (some (strict f.lines hs).1, 0) := by rw [show stepOf (look T pt) ⟨wh, pt, hs⟩ = _ from DS.out, HDN.out]; rfl
                  have HNX : Hid (applyGo (k + 1) (setAt T pt (some (strict f.lines hs).1)) (p.drop (k + 1)) = applyGo 0 t p) := by
                    have e := apply_step (T := T) HD.out (by rw [HSET])
                    rw [show (⟨wh, pt, hs⟩ : Change).path = pt from rfl, HSET] at e
                    rw [Hid, ← e]
                    exact hG.out
                  have HSS : Hid (Sorted (setAt T pt (some (strict f.lines hs).1))) := setAt_sorted hS.out (fun e => by cases e)
                  have HPL : Hid (putLoop ⟨pt, (strict f.lines hs).1⟩ false T = setAt T pt (some (strict f.lines hs).1)) := putLoop_sorted _ _ hS.out
                  have HLN : Hid ((setAt T pt (some (strict f.lines hs).1)).length ≤ T.length + 1) := by
                    have := putAt_len hS.out ⟨pt, (strict f.lines hs).1⟩
                    show (putAt T ⟨pt, (strict f.lines hs).1⟩).length ≤ _
                    rw [this]; split <;> omega
                  clear HSET hG
                  go_wp2_with fail
                  refine (refPut_any T ⟨pt, (strict f.lines hs).1⟩ _ _ _ hT hr6 hpc (by omega)).mono ?_
                  rintro e w7 ⟨r7, rfl, hc7, hr7⟩
                  rw [HPL.out] at hr7
                  have hcD := hcD.trans hc7
                  have hle := HLN.out
                  clear hc7 d0 d1 hr6
                  go_wp2_with fail
                  go_roundw
                  case rel => exact ⟨k + 1, _, by omega, by go_num, hcD, hr7, HSS, by omega, HNX⟩
                  case measure => simp [intOf] <;> omega
              · have HE : Hid (applyR t p = ([], k, (strict f.lines hs).2.2)) := apply_ret Z.out Y.out hG.out HD.out (by rw [show stepOf (look T pt) ⟨wh, pt, hs⟩ = _ from DS.out, done_bad (there := true) (c := ⟨wh, pt, hs⟩) (fun h => k2 h.1) (fun h => by cases h.2) zz]) zz
                have z0 : ((strict f.lines hs).2.2 == 0) = false := by simp [zz]
                have z0' : ((strict f.lines hs).2.2 != 0) = true := by simp [zz]
                clear hG DS zz k2 f1
                go_wp2_with fail
                go_ret3
                exact rap_bad HE.out hcD
          | false =>
            obtain ⟨hlk, _⟩ := find_not hS.out hi
            rw [placeT_not hS.out hi]
            have DS := Lib.hid (step_done (c := ⟨wh, pt, hs⟩) (there := false) (L := []) hlk rfl rfl)
            clear hi hlk o3 hQ
            by_cases k2 : wh = 2
            · subst k2
              go_wp2_with fail
              refine (strictOf_any ([] : List ByteArray) hs _ _ _ ((rdv_nil _ _)) (hhv.out.never hcD)).mono ?_
              rintro e w6 ⟨r6, rfl, hc6, hr6⟩
              have hcD := hcD.trans hc6
              have hT := hT.never hc6
              have d0 := hc6.cellNever d0
              have d1 := hc6.cellNever d1
              obtain ⟨sa, sc, rfl, _, _, _⟩ := rdv_slice hr6
              clear hc6
              by_cases zz : (strict [] hs).2.2 = 0
              · have HDN : Hid (doneR false [] ⟨2, pt, hs⟩ = ((strict [] hs).1, true, 0)) := done_good (there := false) (c := ⟨2, pt, hs⟩) (fun h => by cases h.2) (fun h => h.1 rfl) zz (fun h => absurd (show (2 : Int) = 3 from h.1) (by decide))
                rw [zz]
                clear zz
                have HSET : stepOf (look T pt) ⟨2, pt, hs⟩ = (some (strict [] hs).1, 0) := by rw [show stepOf (look T pt) ⟨2, pt, hs⟩ = _ from DS.out, HDN.out]; rfl
                have HNX : Hid (applyGo (k + 1) (setAt T pt (some (strict [] hs).1)) (p.drop (k + 1)) = applyGo 0 t p) := by
                  have e := apply_step (T := T) HD.out (by rw [HSET])
                  rw [show (⟨2, pt, hs⟩ : Change).path = pt from rfl, HSET] at e
                  rw [Hid, ← e]
                  exact hG.out
                have HSS : Hid (Sorted (setAt T pt (some (strict [] hs).1))) := setAt_sorted hS.out (fun e => by cases e)
                have HPL : Hid (putLoop ⟨pt, (strict [] hs).1⟩ false T = setAt T pt (some (strict [] hs).1)) := putLoop_sorted _ _ hS.out
                have HLN : Hid ((setAt T pt (some (strict [] hs).1)).length ≤ T.length + 1) := by
                  have := putAt_len hS.out ⟨pt, (strict [] hs).1⟩
                  show (putAt T ⟨pt, (strict [] hs).1⟩).length ≤ _
                  rw [this]; split <;> omega
                clear HSET hG
                go_wp2_with fail
                refine (refPut_any T ⟨pt, (strict [] hs).1⟩ _ _ _ hT hr6 hpc (by omega)).mono ?_
                rintro e w7 ⟨r7, rfl, hc7, hr7⟩
                rw [HPL.out] at hr7
                have hcD := hcD.trans hc7
                have hle := HLN.out
                clear hc7 d0 d1 hr6
                go_wp2_with fail
                go_roundw
                case rel => exact ⟨k + 1, _, by omega, by go_num, hcD, hr7, HSS, by omega, HNX⟩
                case measure => simp [intOf] <;> omega
              · have HE : Hid (applyR t p = ([], k, (strict [] hs).2.2)) := apply_ret Z.out Y.out hG.out HD.out (by rw [show stepOf (look T pt) ⟨2, pt, hs⟩ = _ from DS.out]; show (doneR false [] _).2.2 = _; rw [done_bad (there := false) (c := ⟨2, pt, hs⟩) (fun h => by cases h.2) (fun h => h.1 rfl) zz]) zz
                have z0 : ((strict [] hs).2.2 == 0) = false := by simp [zz]
                have z0' : ((strict [] hs).2.2 != 0) = true := by simp [zz]
                clear hG DS zz
                go_wp2_with fail
                go_ret3
                exact rap_bad HE.out hcD
            · have HE : Hid (applyR t p = ([], k, 4)) := apply_ret Z.out Y.out hG.out HD.out (by rw [show stepOf (look T pt) ⟨wh, pt, hs⟩ = _ from DS.out]; show (doneR false [] _).2.2 = _; rw [done_none ⟨k2, rfl⟩]) (by decide)
              have t2 : (wh == 2) = false := by simp [k2]
              have t2' : (wh != 2) = true := by simp [k2]
              clear hG DS k2
              go_wp2_with fail
              go_ret3
              exact rap_bad HE.out hcD
        · obtain rfl : k = p.length := by omega
          have hGo := hG.out
          rw [apply_end] at hGo
          have hR := applyR_go Z.out Y.out hGo.symm
          rw [if_neg (by decide)] at hR
          by_cases h8 : 8 < T.length
          · rw [if_pos h8] at hR
            have E := Lib.hid (rap_bad (k := 0) hR hc)
            clear hR hGo hG
            go_wp2_with fail
            go_ret3
            exact E.out
          · rw [if_neg h8] at hR
            have HR := Lib.hid hR
            clear hR hGo hG
            go_wp2_with fail
            go_ret3
            exact rap_ok HR.out hc hT
    · have HE := Lib.hid (applyR_patch z y)
      have Z := Lib.hid z
      have y0 : ((patchFault p).2 == 0) = false := by simp [y]
      have y0' : ((patchFault p).2 != 0) = true := by simp [y]
      clear z y
      go_enter Tryz.func32, Tryz.ntmps32
      go_wp2_with fail
      refine (refTree_any t _ _ ht).mono ?_
      rintro e w1 ⟨rfl, hw⟩
      rw [Z.out]
      go_wp2_with fail
      refine (refPatch_any p _ _ (hp.never hw)).mono ?_
      rintro e w2 ⟨rfl, hc2⟩
      go_wp2_with fail
      go_ret3
      exact rap_bad HE.out (hw.trans hc2)
  · have HE := Lib.hid (applyR_tree (p := p) z)
    have z0 : ((treeFault t).2 == 0) = false := by simp [z]
    have z0' : ((treeFault t).2 != 0) = true := by simp [z]
    clear z
    go_enter Tryz.func32, Tryz.ntmps32
    go_wp2_with fail
    refine (refTree_any t _ _ ht).mono ?_
    rintro e w1 ⟨rfl, hw⟩
    go_wp2_with fail
    go_ret3
    exact rap_bad HE.out hw
end Go.Proofs.YtmjpfoeaobdaeaaGreatDoor
namespace Go.Proofs.YtmjpfoeaobdaeaaGreatDoor
open Go.RowKit

def goR (m : Ses) (p : List UInt8) : Ses × List UInt8 := match numM 4 p with | some n => goS m n | none => (m, badL)
theorem goR_none {m : Ses} {p : List UInt8} (h : numM 4 p = none) : goR m p = (m, badL) := by unfold goR; rw [h]
theorem goR_far {m : Ses} {p : List UInt8} {n : Nat} (h : numM 4 p = some n) (hn : 1000 < n) : goR m p = (m, toldS [] 1) := by
  unfold goR; rw [h]
  show goS m n = _
  unfold goS; rw [if_neg (by omega)]
theorem goR_ok {m : Ses} (hok : SesOk m) {p : List UInt8} {n : Nat} (h : numM 4 p = some n) (hn : n ≤ 1000) : goR m p = (⟨m.new, m.new⟩, okL) := by
  unfold goR; rw [h]
  exact goS_ok hok n hn
set_option maxHeartbeats 4000000 in
set_option maxRecDepth 100000 in
theorem doc_go (b : Nat) (m : Ses) (s p : List UInt8) (w : World) (hd : DocAt w b m) (hok : SesOk m) (hs : s.length ≤ 100000) (hW : parts 32 s = [goW, p]) :
    Calls Tryz.prog 15 #[.pointer (some ⟨b, 0, none⟩), .string (toB s)] w (DocPost b (goR m p) w) := by
  have hpl : p.length ≤ s.length := by
    have hj := join_words 32 s
    rw [hW] at hj
    rw [← hj]
    simp only [joinW, List.length_append, List.length_cons]
    omega
  have hns := hd.nostr
  obtain ⟨vo, vn, hb, ho, hn⟩ := hd
  obtain ⟨oa, oc, rfl, _, _, _⟩ := rdv_slice ho
  obtain ⟨na, nc, rfl, _, _, _⟩ := rdv_slice hn
  have HW := Lib.hid hW
  have t1 : ((toB goW).toList == [100, 114, 111, 112]) = false := by rw [wtest]; decide
  have t2 : ((toB goW).toList == [100, 105, 102, 102]) = false := by rw [wtest]; decide
  have t3 : ((toB goW).toList == [102, 97, 114]) = false := by rw [wtest]; decide
  have t4 : ((toB goW).toList == [103, 111]) = true := by rw [wtest]; decide
  have s1 : ((toB s).toList == [98, 97, 99, 107]) = false := wfalse (parts_ne1 HW.out (by decide))
  have s2 : ((toB s).toList == [115, 97, 109, 101]) = false := wfalse (parts_ne1 HW.out (by decide))
  clear hW
  go_enter Tryz.func15, Tryz.ntmps15
  go_wp2_with fail
  refine (words_any (toB s) w (by rw [toB_sz]; omega)).mono ?_
  rintro e w1 ⟨ws, rfl, hc1, hws⟩
  rw [toB_data, HW.out] at hws
  have hb1 := hb.keep hc1 (fun x => x)
  have ho1 := ho.never hc1
  have hn1 := hn.never hc1
  obtain ⟨c0, c1⟩ := hb1.cell
  clear hb ho hn
  obtain ⟨wa, wc, rfl, _, wz2, wz3⟩ := rdv_slice hws
  obtain ⟨wb, woff, rfl, _, _, k0, _⟩ := elems_str wz3 (i := 0) rfl
  obtain ⟨wb', woff', hwe, _, _, k1, hps⟩ := elems_str wz3 (i := 1) rfl
  injection hwe with hwe
  injection hwe with hwe1 hwe2 _
  subst hwe1 hwe2
  clear wz3 hws
  simp only [List.map_cons, List.map_nil, List.length_cons, List.length_nil, Nat.add_zero, Nat.zero_add, Nat.reduceAdd] at k0 k1 ⊢
  generalize toB goW = X at k0 t1 t2 t3 t4
  have hNum := refNumber_any (toB p) 4 (by decide) (by rw [toB_sz]; omega) w1
  rw [toB_data] at hNum
  have HNUM := Lib.hid hNum
  clear hNum
  have hdd : DocAt w1 b m := ⟨_, _, hb1, ho1, hn1⟩
  go_wp2_with fail
  refine HNUM.out.mono ?_
  rintro e w2 ⟨rfl, rfl⟩
  clear HNUM
  cases hN : numM 4 p with
  | none =>
    have HR := Lib.hid (goR_none (m := m) hN)
    rw [show numV none = -1 from rfl]
    clear hN
    go_wp2_with fail
    go_ret
    exact ⟨never_b hc1, by rw [HR.out]; exact hdd, by rw [HR.out]; rfl⟩
  | some n =>
    rw [show numV (some n) = (n : Int) from rfl]
    have h4 := numM4_lt hN
    by_cases hn1000 : 1000 < n
    · have HR := Lib.hid (goR_far (m := m) hN hn1000)
      have t5 : decide ((n : Int) < 0) = false := decide_eq_false (by omega)
      have t6 : decide ((1000 : Int) < (n : Int)) = true := decide_eq_true (by omega)
      clear hN hn1000
      go_wp2_with fail
      refine (reftold_any [] (by simp) 1 _).mono ?_
      rintro e w4 ⟨rfl, rfl⟩
      go_wp2_with fail
      go_ret
      exact ⟨never_b hc1, by rw [HR.out]; exact hdd, by rw [HR.out]; rfl⟩
    · have HR := Lib.hid (goR_ok hok hN (by omega))
      have t5 : decide ((n : Int) < 0) = false := decide_eq_false (by omega)
      have t6 : decide ((1000 : Int) < (n : Int)) = false := decide_eq_false (by omega)
      have HAP := Lib.hid (diff_makes hok.1 hok.2 (n := (n : Int)) (by omega) (by omega)).1
      clear hN
      have hod := ho1.never ((Chg.refl Never w1).drew)
      have hnd := hn1.never ((Chg.refl Never w1).drew)
      have HDD := Lib.hid (diff_same (n : Int) hok.1.2.2 hok.2.2.2)
      have hfo := tree_iff.1 hok.1
      have hfn := tree_iff.1 hok.2
      go_wp2_with fail
      refine wp_region_held_drew (S := fun w' => Chg Never w1 w' ∧ w'.cell? ⟨b, 0, none⟩ = some (.slice oa m.old.length oc) ∧ w'.cell? ⟨b, 1, none⟩ = some (.slice na m.new.length nc)) (by kernel_rfl) ⟨(Chg.refl Never w1).drew, c0, c1⟩ (fun hH => ?_)
      refine' tk 0 ?_
      refine' tk 1 ?_
      refine' tk 2 ?_
      refine' tk 3 ?_
      refine' tk 4 ?_
      refine' tk 5 ?_
      refine' tk 6 ?_
      refine' tk 7 ?_
      refine' tk 8 ?_
      refine wpAnyH_ready (rs := [9]) (by kernel_rfl) (by simp) ?_
      refine AllReadyH.cons rfl (fun K hK => ?_) AllReadyH.nil
      go_simp
      (go_at_call 25; refine (refDiff_any m.old m.new (n : Int) _ _ _ hod hnd hfo hfn (by omega) (by omega)).mono ?_; rintro e w2 ⟨r2, rfl, hc2, hr2⟩; have hw2 := ((Chg.refl Never w1).drew).trans hc2; have hS2 : Chg Never w1 w2 ∧ w2.cell? ⟨b, 0, none⟩ = some (.slice oa m.old.length oc) ∧ w2.cell? ⟨b, 1, none⟩ = some (.slice na m.new.length nc) := ⟨hw2, hw2.cellNever c0, hw2.cellNever c1⟩; rw [HDD.out] at hr2; obtain ⟨ra, rc, rfl, _, _, _⟩ := rdv_slice hr2; clear hH hc2)
      try go_wp2_with fail
      refine hK.out _ _ ?_ (fun hH => ?_)
      · assumption
      clear hK K
      try simp only [Act.put, List.setIfInBounds_toArray, List.set_cons_zero, List.set_cons_succ]
      refine' tk 10 ?_
      refine wpAnyH_done (by kernel_rfl) ?_ _
      have hd2 := hdd.never hw2
      have hw := hc1.trans hw2
      have hb2 := hb1.keep hw2 (fun x => x)
      have ho2 := ho1.never hw2
      have hn2 := hn1.never hw2
      obtain ⟨d0, d1⟩ := hb2.cell
      have k0 := hw2.cellNever k0
      clear hS2 hod hnd hb1 ho1 hn1 c0 c1 hw2 HDD k1
      generalize diffL (n : Int) m.old m.new = D at hr2 HAP ⊢
      have hAp := refApply_any m.old D _ _ w2 ho2 hr2
      have HAPP := Lib.hid hAp
      clear hAp hr2
      go_wp2_with fail
      refine HAPP.out.mono ?_
      rintro e w4 ⟨r4, rfl, hc4, hr4⟩
      rw [HAP.out] at hr4 ⊢
      simp only at hr4 ⊢
      clear HAPP HAP
      obtain ⟨ta, tc, rfl, _, _, _⟩ := rdv_slice hr4
      have hb4 := hb2.keep hc4 (fun x => x)
      obtain ⟨l0, l1⟩ := hb4.cell
      have f4 := hb4.free 0
      have hd4 := hd2.never hc4
      have hA := doc_set0 hd4 hr4
      have hcs := set_chg (b := b) (i := 0) (u := .slice ta m.new.length tc) (hw.trans hc4)
      clear hb4 hd4 hr4 hb2 ho2 hn2 d0 d1
      go_wp2_with fail
      refine (reftold_any okW (by decide) 0 _).mono ?_
      rintro e w5 ⟨rfl, rfl⟩
      go_wp2_with fail
      go_ret
      exact ⟨hcs, by rw [HR.out]; exact hA, by rw [HR.out]; rfl⟩
end Go.Proofs.YtmjpfoeaobdaeaaGreatDoor
