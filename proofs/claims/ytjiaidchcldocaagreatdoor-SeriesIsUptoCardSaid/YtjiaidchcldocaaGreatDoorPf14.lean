/-
  PARTS: THE WALK of series.Pack.; THE WALK of the document's HunksText (handstitchref2).; THE WALK of the document's PatchText (handstitchref2).; THE WALK of the document's PackOf.; WHAT THE DOCUMENT'S WAY BETWEEN TWO TREES NEEDS, in plain Lean: places and lookups, the merged list's length, what Make answers of valid lines.; THE WALK of patch.Diff.; WHAT WAS DONE LEADS FROM A TREE TO A TREE, in plain Lean.; PATCHES FROM TREE TO TREE, in plain Lean (the statements of the whole): what is found between neighbours, what a series run leads to.; THE WALK of patch.done: what a change does to what a path reads.; THE WALKS of tree.Find (a binary search).; THE WALKS of tree.Copy, and of slices.Concat of files.
-/
import Derived.Test.YtjiaidchcldocaaGreatDoorPf5
import Derived.Test.YtjiaidchcldocaaGreatDoorPf7
import Derived.Test.YtjiaidchcldocaaGreatDoorPf10
import Derived.Test.YtjiaidchcldocaaGreatDoorPf13
import Derived.Test.YtjiaidchcldocaaGreatDoorPf1
import Derived.Test.YtjiaidchcldocaaGreatDoorPf3
import Derived.Test.YtjiaidchcldocaaGreatDoorPf6
import Derived.Deep.RegionHeld3
import Derived.Test.YtjiaidchcldocaaGreatDoorPf4
import Derived.Test.YtjiaidchcldocaaGreatDoorPf12
import Derived.BigQuiet
set_option linter.unusedVariables false
set_option linter.unusedSimpArgs false
namespace Go.Proofs.YtjiaidchcldocaaGreatDoor
open Go.RowKit

theorem conv_made {w : World} {s : ByteArray} (hs : s.size ≤ maxLen) : ∃ (a : Addr) (c : Nat) (w' : World),
    (convert 9 29 (.string s)).run Tryz.prog w = .ok (.slice (some a) s.size c) w' ∧ Chg Never w w' ∧ Rdv w' (Old w.heap.size) (.slice (some a) s.size c) s.data.toList := by
  obtain ⟨c, o, h1, h2⟩ := conv_bytes (w := w) hs
  exact ⟨_, c, _, h1, (Chg.refl Never w).drew.alloc o, h2⟩
theorem own_mail1 {w : World} {O : Nat → Prop} {g : Nat} {m : Mail} {v : Value} (h : w.heap[g]? = some (.cells #[.string m.sender, .string m.subject, .string m.ident, v] 31 (0, 0))) (hO : ¬ O g)
    (z1 : m.sender.size ≤ maxLen) (z2 : m.subject.size ≤ maxLen) (z3 : m.ident.size ≤ maxLen) (hv : Rdv w (fun k => O k ∨ some g = some k) v m.body) : Own 31 w O (.slice (some ⟨g, 0, none⟩) 1 1) [m] := by
  refine ⟨[.string m.sender, .string m.subject, .string m.ident, v], ⟨rfl, .inr ⟨g, 1, #[.string m.sender, .string m.subject, .string m.ident, v], rfl, Nat.zero_le _, h, Nat.le_refl _, by unfold maxLen; omega, rfl, rfl⟩⟩, ?_, ?_⟩
  · intro k hk
    simp only [Value.ownBlock, Option.some.injEq] at hk
    subst hk
    exact hO
  · intro i x hi
    match i, hi with
    | 0, hi =>
      simp only [List.getElem?_cons_zero, Option.some.injEq] at hi
      subst hi
      exact ⟨v, rfl, z1, z2, z3, hv⟩
theorem pkeep {O O' : Nat → Prop} {w2 wr wq : World} {B : Nat} {a b c d : Value} (h : Chg O w2 wr ∧ wr.cell? ⟨B, 0, none⟩ = some a ∧ wr.cell? ⟨B, 1, none⟩ = some b ∧ wr.cell? ⟨B, 2, none⟩ = some c ∧ wr.cell? ⟨B, 3, none⟩ = some d) (k : Chg O' wr wq) (hO : ∀ x, O' x → O x) (hB : ¬ O B) :
    Chg O w2 wq ∧ wq.cell? ⟨B, 0, none⟩ = some a ∧ wq.cell? ⟨B, 1, none⟩ = some b ∧ wq.cell? ⟨B, 2, none⟩ = some c ∧ wq.cell? ⟨B, 3, none⟩ = some d := by
  have k := k.mono (fun x _ => hO x)
  exact ⟨h.1.trans k, k.cell h.2.1 hB, k.cell h.2.2.1 hB, k.cell h.2.2.2.1 hB, k.cell h.2.2.2.2 hB⟩
theorem subj_len (a b : Nat) (t : List UInt8) (ha : a ≤ 8) (hb : b ≤ 8) : (subjL a b t).length = 12 + t.length := by
  unfold subjL patW
  simp only [List.length_append, List.length_cons, List.length_nil, dig_small a ha, dig_small b hb]
  omega
theorem id_len (a b : Nat) (ha : a ≤ 8) (hb : b ≤ 8) : (idL a b).length = 3 := by
  unfold idL
  simp only [List.length_append, List.length_cons, List.length_nil, dig_small a ha, dig_small b hb]
set_option maxHeartbeats 4000000 in
set_option maxRecDepth 100000 in
theorem pack_any (t : ByteArray) (p : List (List Change)) (v : Value) (w : World) (h : Rdv w Never v p) (ht : t.size ≤ 1000000000) (m : Int) (hm : w.cell? ⟨1, 0, none⟩ = some (.int .i64 m)) :
    Calls Tryz.prog 11 #[.string t, v] w fun e w' => ∃ r, e = .returned (.tuple #[r, errV (packF t.data.toList p)]) ∧ Chg Never w w' ∧ Rdv w' Never r (packR t.data.toList p) := by
  obtain ⟨a, cap, rfl, h1, h2, h3⟩ := rdv_slice h
  unfold maxLen at h2
  have htm : t.size ≤ maxLen := by unfold maxLen; omega
  by_cases h8 : 8 < p.length
  · have HF : Hid (packF t.data.toList p = 3) := if_pos h8
    have HR : Hid (packR t.data.toList p = []) := if_neg (by rw [HF.out]; decide)
    have t1 : decide ((8 : Int) < (p.length : Int)) = true := decide_eq_true (by omega)
    clear h h3
    go_enter Tryz.func11, Tryz.ntmps11
    go_wp2_with fail
    go_ret2
    exact ⟨_, by rw [HF.out]; rfl, Chg.refl _ _, by rw [HR.out]; exact rdv_nil _ _⟩
  · have t1 : decide ((8 : Int) < (p.length : Int)) = false := decide_eq_false (by omega)
    cases htt : titledB t.data.toList with
    | false =>
      have HF : Hid (packF t.data.toList p = 5) := (if_neg h8).trans (if_pos htt)
      have HR : Hid (packR t.data.toList p = []) := if_neg (by rw [HF.out]; decide)
      have HT := Lib.hid htt
      clear h h3 htt
      go_enter Tryz.func11, Tryz.ntmps11
      go_wp2_with fail
      refine (titled_any t _ htm).mono ?_
      rintro e w1 ⟨rfl, rfl⟩
      rename World => w
      rw [HT.out]
      go_wp2_with fail
      go_ret2
      exact ⟨_, by rw [HF.out]; rfl, Chg.refl _ _, by rw [HR.out]; exact rdv_nil _ _⟩
    | true =>
      have hF0 : packF t.data.toList p = firstOf packFault p := (if_neg h8).trans (if_neg (by rw [htt]; decide))
      have HF := Lib.hid hF0
      have HT := Lib.hid htt
      have htl := (titled_ok htt).2.1
      rw [← Lib.size_eq] at htl
      obtain ⟨n, hN⟩ : ∃ n, p.length = n := ⟨_, rfl⟩
      have HN := Lib.hid hN
      have hn8 : n ≤ 8 := by omega
      have HPL : Hid (packL t.data.toList p = partMail t.data.toList 0 n [] :: packGo t.data.toList n 1 p) := by unfold Hid packL; rw [hN]
      have FS : ∀ (i : Nat) (k : Int), k = i → i ≤ 8 → ∀ wx, Calls Tryz.prog 44 #[.agg #[.string t, .int .i64 k, .int .i64 n, .slice none 0 0]] wx fun e w' => e = .returned (.string (toB (subjL i n t.data.toList))) ∧ Chg Never wx w' := by
        rintro i k rfl hi wx
        exact subject_any t i n _ wx hi hn8 ht rfl
      have FI : ∀ (i : Nat) (k : Int), k = i → i ≤ 8 → ∀ wx, Calls Tryz.prog 45 #[.agg #[.string t, .int .i64 k, .int .i64 n, .slice none 0 0]] wx fun e w' => e = .returned (.string (toB (idL i n))) ∧ Chg Never wx w' := by
        rintro i k rfl hi wx
        exact partid_any t i n _ wx hi hn8
      have FS := Lib.hid FS
      have FI := Lib.hid FI
      have FS0 := Lib.hid (FS.out 0 0 rfl (by omega))
      have FI0 := Lib.hid (FI.out 0 0 rfl (by omega))
      rw [hN] at h1 t1 ⊢
      clear h htt h8 hF0 hN
      obtain ⟨hA, c0, c1, c2, c3⟩ := box1_part w 97 t 0 n (.slice none 0 0) _ rfl
      go_enter Tryz.func11, Tryz.ntmps11
      go_wp2_with fail
      refine (titled_any t _ htm).mono ?_
      rintro e w1 ⟨rfl, rfl⟩
      rename World => w
      rw [HT.out]
      go_wp2_with fail
      obtain ⟨wA, hwA⟩ : ∃ wA, w.alloc (.cells #[.string t, .int .i64 0, .int .i64 n, .slice none 0 0] 97) = wA := ⟨_, rfl⟩
      obtain ⟨B, hB⟩ : ∃ B, w.heap.size = B := ⟨_, rfl⟩
      rw [hwA] at hA c0 c1 c2 c3 ⊢
      rw [hB] at c0 c1 c2 c3 ⊢
      have hBw := Lib.hid hB
      clear hwA hB
      have hBO : ¬ Never B := fun h => h
      refine wp_region_held_drew (S := fun w' => Chg Never wA w' ∧ w'.cell? ⟨B, 0, none⟩ = some (.string t) ∧ w'.cell? ⟨B, 1, none⟩ = some (.int .i64 0) ∧ w'.cell? ⟨B, 2, none⟩ = some (.int .i64 n) ∧ w'.cell? ⟨B, 3, none⟩ = some (.slice none 0 0)) (by kernel_rfl) ⟨(Chg.refl Never wA).drew, c0, c1, c2, c3⟩ (fun hH => ?_)
      refine' tk 0 ?_
      refine' tk 2 ?_
      refine wpAnyH_ready (rs := [1]) (by kernel_rfl) (by simp) ?_
      refine AllReadyH.cons rfl (fun K hK => ?_) AllReadyH.nil
      go_simp
      go_at_call 44
      refine (FS0.out _).mono ?_
      rintro e wq ⟨rfl, hcq⟩
      try go_wp2_with fail
      refine hK.out _ _ (pkeep hH hcq (fun _ h => h.elim) hBO) (fun hH => ?_)
      clear hK K
      try simp only [Act.put, List.setIfInBounds_toArray, List.set_cons_zero, List.set_cons_succ]
      refine wpAnyH_ready (rs := [3]) (by kernel_rfl) (by simp) ?_
      refine AllReadyH.cons rfl (fun K hK => ?_) AllReadyH.nil
      go_simp
      go_at_call 45
      refine (FI0.out _).mono ?_
      rintro e wq ⟨rfl, hcq⟩
      try go_wp2_with fail
      refine hK.out _ _ (pkeep hH hcq (fun _ h => h.elim) hBO) (fun hH => ?_)
      clear hK K
      try simp only [Act.put, List.setIfInBounds_toArray, List.set_cons_zero, List.set_cons_succ]
      refine' tk 4 ?_
      refine wpAnyH_ready (rs := [5]) (by kernel_rfl) (by simp) ?_
      refine AllReadyH.cons rfl (fun K hK => ?_) AllReadyH.nil
      go_simp
      have hn1 := heap_alloc_new wq (.cells #[.string ⟨#[104, 97, 110, 100, 115, 116, 105, 116, 99, 104]⟩, .string (toB (subjL 0 n t.data.toList)), .string (toB (idL 0 n)), .slice none 0 0] 31)
      refine hK.out _ _ (pkeep (by assumption) ((Chg.refl Never _).alloc _) (fun _ h => h.elim) hBO) (fun hH => ?_)
      clear hK K
      try simp only [Act.put, List.setIfInBounds_toArray, List.set_cons_zero, List.set_cons_succ]
      refine' tk 6 ?_
      refine wpAnyH_done (by kernel_rfl) ?_ _
      have hF : Chg Never wA (wq.alloc (.cells #[.string ⟨#[104, 97, 110, 100, 115, 116, 105, 116, 99, 104]⟩, .string (toB (subjL 0 n t.data.toList)), .string (toB (idL 0 n)), .slice none 0 0] 31)) := And.left (by assumption)
      have hcF := hA.trans hF
      have hle : w.heap.size ≤ wq.heap.size := by
        have := hF.size
        have h2 := hA.size
        have h3 := hcq.size
        have h4 := (And.left (by assumption) : Chg Never wA wq).size
        omega
      have hown1 : Own 31 _ Never (.slice (some ⟨wq.heap.size, 0, none⟩) 1 1) [partMail t.data.toList 0 n []] := own_mail1 hn1 (fun h => h) (by show (toB handW).size ≤ _; rw [toB_size']; decide) (by show (toB (subjL 0 n t.data.toList)).size ≤ _; rw [toB_size', subj_len 0 n _ (by omega) hn8, ← Lib.size_eq]; unfold maxLen; omega) (by show (toB (idL 0 n)).size ≤ _; rw [toB_size', id_len 0 n (by omega) hn8]; decide) (rdv_nil _ _)
      have hnn : OwnN 31 w _ (.slice (some ⟨wq.heap.size, 0, none⟩) 1 1) [partMail t.data.toList 0 n []] := ⟨hown1, fun k hk => by simp only [Value.ownBlock, Option.some.injEq] at hk; subst hk; exact hle, hcF⟩
      clear hn1 hown1 hF c0 c1 c2 c3 hA hBw hBO
      generalize wq.alloc (.cells #[.string ⟨#[104, 97, 110, 100, 115, 116, 105, 116, 99, 104]⟩, .string (toB (subjL 0 n t.data.toList)), .string (toB (idL 0 n)), .slice none 0 0] 31) = wL at hnn hcF ⊢
      go_wp2_with fail
      go_loopw [7, 33] (fun ov iv wr => ∃ i : Nat, i ≤ n ∧ iv = .int .i64 i ∧ OwnN 31 w wr ov (partMail t.data.toList 0 n [] :: packGo t.data.toList n 1 (p.take i)) ∧ Hid (firstOf packFault (p.drop i) = firstOf packFault p)) (fun _ iv _ => n - (intOf iv).toNat)
      case atStart => exact ⟨0, Nat.zero_le _, rfl, hnn, rfl⟩
      case round =>
        clear hnn hcF hle
        obtain ⟨i, hi, rfl, hn, hf⟩ := hrel
        rename World => wr
        obtain ⟨va, vn, vc, rfl⟩ := own_isSlice hn.own
        by_cases hlt : i < n
        · obtain ⟨c, hx⟩ : ∃ c, p[i]? = some c := ⟨_, List.getElem?_eq_getElem (by have := HN.out; omega)⟩
          obtain ⟨b, off, cv, rfl, -, -, d0, hcv⟩ := elems_row h3 hx
          have HPT0 : partMail t.data.toList 0 n [] :: packGo t.data.toList n 1 (p.take (i + 1)) = (partMail t.data.toList 0 n [] :: packGo t.data.toList n 1 (p.take i)) ++ [packOne t.data.toList n (i + 1) c] := by rw [packGo_take hx]; rfl
          have HPT := Lib.hid HPT0
          obtain ⟨st1, st2⟩ := firstOf_from hf.out hx
          have hLl : (partMail t.data.toList 0 n [] :: packGo t.data.toList n 1 (p.take i)).length ≤ 1000000000 := by rw [List.length_cons, packGo_len, List.length_take]; omega
          obtain ⟨L, hL⟩ : ∃ L, (partMail t.data.toList 0 n [] :: packGo t.data.toList n 1 (p.take i)) = L := ⟨_, rfl⟩
          rw [hL] at hn HPT hLl
          have d0 := hn.chg.cellNever d0
          have hcv := hcv.never hn.chg
          have hmr := hn.chg.cellNever hm
          clear hx hf h3 hL HPT0
          go_wp2_with fail
          refine (gitprint_any c _ _ hcv m hmr).mono ?_
          rintro e w1 ⟨rfl, hc1⟩
          have hn1 := hn.never hc1
          by_cases hz : (patchFault c).2 = 0
          · have HG : gitR c = toB (textG c) := if_pos hz
            have HPF : packFault c = if 40000 < (textG c).length then 3 else 0 := if_neg (by rw [hz]; decide)
            by_cases h4 : 40000 < (textG c).length
            · have HPF := HPF.trans (if_pos h4)
              have HF2 : Hid (packF t.data.toList p = 3) := by rw [Hid, HF.out, st2 (by rw [HPF]; decide), HPF]
              have HR : Hid (packR t.data.toList p = []) := if_neg (by rw [HF2.out]; decide)
              have t4 : decide ((40000 : Int) < ((toB (textG c)).size : Int)) = true := decide_eq_true (by rw [toB_size']; omega)
              rw [HG, hz, errV_zero]
              generalize toB (textG c) = S at t4 ⊢
              clear HPF h4 HG hz st1 st2 hcv
              go_wp2_with fail
              go_ret2
              exact ⟨_, by rw [HF2.out]; rfl, hn1.chg, by rw [HR.out]; exact rdv_nil _ _⟩
            · have HS2 : Hid (firstOf packFault (p.drop (i + 1)) = firstOf packFault p) := st1 (by rw [HPF, if_neg h4])
              have t4 : decide ((40000 : Int) < ((toB (textG c)).size : Int)) = false := decide_eq_false (by rw [toB_size']; omega)
              have zS : (toB (textG c)).size ≤ 40000 := by rw [toB_size']; omega
              have HST0 : (toB (textG c)).data.toList = textG c := toB_data _
              rw [HG, hz, errV_zero]
              obtain ⟨S, hS⟩ : ∃ S, toB (textG c) = S := ⟨_, rfl⟩
              rw [hS] at t4 zS HST0 ⊢
              have HST := Lib.hid HST0
              have hSm : S.size ≤ maxLen := by unfold maxLen; omega
              have hin : i + 1 ≤ n := hlt
              have FSi := Lib.hid (FS.out (i + 1) ((i : Int) + 1) (by omega) (by omega))
              have FIi := Lib.hid (FI.out (i + 1) ((i : Int) + 1) (by omega) (by omega))
              have zs : (toB (subjL (i + 1) n t.data.toList)).size ≤ maxLen := by rw [toB_size', subj_len _ n _ (by omega) hn8, ← Lib.size_eq]; unfold maxLen; omega
              have zi : (toB (idL (i + 1) n)).size ≤ maxLen := by rw [toB_size', id_len _ n (by omega) hn8]; decide
              have hBO : ¬ OwnB (.slice va vn vc) w1.heap.size := fun h => Nat.lt_irrefl _ (own_block_lt hn1.own _ h)
              obtain ⟨hA2, c0, c1, c2, c3⟩ := box1_part w1 97 t ((i : Int) + 1) n (.slice none 0 0) _ rfl
              clear HPF h4 HG hz st1 st2 hcv hS HST0 hn1
              go_wp2_with fail
              obtain ⟨wB, hwB⟩ : ∃ wB, w1.alloc (.cells #[.string t, .int .i64 ((i : Int) + 1), .int .i64 n, .slice none 0 0] 97) = wB := ⟨_, rfl⟩
              obtain ⟨B, hB⟩ : ∃ B, w1.heap.size = B := ⟨_, rfl⟩
              rw [hwB] at hA2 c0 c1 c2 c3 ⊢
              rw [hB] at c0 c1 c2 c3 hBO ⊢
              have hd := (hc1.trans hA2).drew
              clear hwB hB hc1 hA2
              refine wp_region_held_drew (S := fun w' => Chg (OwnB (.slice va vn vc)) wB w' ∧ w'.cell? ⟨B, 0, none⟩ = some (.string t) ∧ w'.cell? ⟨B, 1, none⟩ = some (.int .i64 ((i : Int) + 1)) ∧ w'.cell? ⟨B, 2, none⟩ = some (.int .i64 n) ∧ w'.cell? ⟨B, 3, none⟩ = some (.slice none 0 0)) (by kernel_rfl) ⟨(Chg.refl _ wB).drew, c0, c1, c2, c3⟩ (fun hH => ?_)
              refine' tk 0 ?_
              refine' tk 1 ?_
              refine' tk 3 ?_
              refine' tk 5 ?_
              refine wpAnyH_ready (rs := [2, 6]) (by kernel_rfl) (by simp) ?_
              refine AllReadyH.cons rfl (fun K hK => ?_) (AllReadyH.cons rfl (fun K hK => ?_) AllReadyH.nil)
              · go_simp
                go_at_call 44
                refine (FSi.out _).mono ?_
                rintro e wq ⟨rfl, hcq⟩
                try go_wp2_with fail
                refine hK.out _ _ (pkeep hH hcq (fun _ h => h.elim) hBO) (fun hH => ?_)
                clear hK K
                try simp only [Act.put, List.setIfInBounds_toArray, List.set_cons_zero, List.set_cons_succ]
                have hd := hd.trans hcq
                refine wpAnyH_ready (rs := [4, 6]) (by kernel_rfl) (by simp) ?_
                refine AllReadyH.cons rfl (fun K hK => ?_) (AllReadyH.cons rfl (fun K hK => ?_) AllReadyH.nil)
                · go_simp
                  go_at_call 45
                  refine (FIi.out _).mono ?_
                  rintro e wq ⟨rfl, hcq⟩
                  try go_wp2_with fail
                  refine hK.out _ _ (pkeep hH hcq (fun _ h => h.elim) hBO) (fun hH => ?_)
                  clear hK K
                  try simp only [Act.put, List.setIfInBounds_toArray, List.set_cons_zero, List.set_cons_succ]
                  have hd := hd.trans hcq
                  refine wpAnyH_ready (rs := [6]) (by kernel_rfl) (by simp) ?_
                  refine AllReadyH.cons rfl (fun K hK => ?_) AllReadyH.nil
                  obtain ⟨ba, bc, w3, hcv3, hc3, hb3⟩ := conv_made (w := wq) (s := S) hSm
                  have hbr : Rdv w3 (Old wr.heap.size) (.slice (some ba) S.size bc) (textG c) := by
                    rw [← HST.out]
                    exact hb3.sub (fun k _ hk => by unfold Old at hk ⊢; have := hd.size; omega)
                  go_simp
                  have hd := hd.trans hc3
                  refine hK.out _ _ (pkeep hH hc3 (fun _ h => h.elim) hBO) (fun hH => ?_)
                  clear hK K
                  try simp only [Act.put, List.setIfInBounds_toArray, List.set_cons_zero, List.set_cons_succ]
                  have hnq : OwnN 31 w w3 (.slice va vn vc) L := hn.never hd
                  have hy : Dat.rd w3 (fun k => Never k ∨ (Value.slice va vn vc).ownBlock = some k) [.string ⟨#[104, 97, 110, 100, 115, 116, 105, 116, 99, 104]⟩, .string (toB (subjL (i + 1) n t.data.toList)), .string (toB (idL (i + 1) n)), .slice (some ba) S.size bc] (packOne t.data.toList n (i + 1) c) := ⟨_, rfl, by show (toB handW).size ≤ _; rw [toB_size']; decide, zs, zi, hn.fresh hbr⟩
                  refine' tk 7 ?_
                  have hSX := hH
                  refine wpAnyH_ready (rs := [8]) (by kernel_rfl) (by simp) ?_
                  refine AllReadyH.cons rfl (fun K hK => ?_) AllReadyH.nil
                  go_simp
                  refine hK.out _ _ (pkeep hSX ((Chg.refl Never _).alloc _) (fun _ h => h.elim) hBO) (fun hH => ?_)
                  clear hK K
                  try simp only [Act.put, List.setIfInBounds_toArray, List.set_cons_zero, List.set_cons_succ]
                  refine wpAnyH_ready (rs := [9]) (by kernel_rfl) (by simp) ?_
                  refine AllReadyH.cons rfl (fun K hK => ?_) AllReadyH.nil
                  refine step_push (by rfl) _ _ 24 (by rfl) elemOk_mail (O := Never) (l := L) (y := packOne t.data.toList n (i + 1) c) (by rfl) (by rfl) (by simp) hnq.own hy (fun _ h => h.elim) hLl ?_
                  intro v' w5 hown5 hc5 hk5
                  refine hK.out _ _ (pkeep hSX hc5 (fun _ h => h) hBO) (fun hH => ?_)
                  clear hK K
                  try simp only [Act.put, List.setIfInBounds_toArray, List.set_cons_zero, List.set_cons_succ]
                  refine' tk 10 ?_
                  refine wpAnyH_done (by kernel_rfl) ?_ _
                  have hn5 := hnq.step1 hown5 hc5 hk5
                  obtain ⟨oa, on, oc, rfl⟩ := own_isSlice hn5.own
                  clear hown5 hc5 hk5 hnq hy hSX hd hbr hb3 hc3 hcv3
                  go_wp2_with fail
                  go_roundw
                  case rel => exact ⟨i + 1, hin, by go_num, by rw [HPT.out]; exact hn5, HS2⟩
                  case measure => simp [intOf] <;> omega
                · obtain ⟨ba, bc, w3, hcv3, hc3, hb3⟩ := conv_made (w := wq) (s := S) hSm
                  have hbr : Rdv w3 (Old wr.heap.size) (.slice (some ba) S.size bc) (textG c) := by
                    rw [← HST.out]
                    exact hb3.sub (fun k _ hk => by unfold Old at hk ⊢; have := hd.size; omega)
                  go_simp
                  have hd := hd.trans hc3
                  refine hK.out _ _ (pkeep hH hc3 (fun _ h => h.elim) hBO) (fun hH => ?_)
                  clear hK K
                  try simp only [Act.put, List.setIfInBounds_toArray, List.set_cons_zero, List.set_cons_succ]
                  refine wpAnyH_ready (rs := [4]) (by kernel_rfl) (by simp) ?_
                  refine AllReadyH.cons rfl (fun K hK => ?_) AllReadyH.nil
                  go_simp
                  go_at_call 45
                  refine (FIi.out _).mono ?_
                  rintro e wq ⟨rfl, hcq⟩
                  try go_wp2_with fail
                  refine hK.out _ _ (pkeep hH hcq (fun _ h => h.elim) hBO) (fun hH => ?_)
                  clear hK K
                  try simp only [Act.put, List.setIfInBounds_toArray, List.set_cons_zero, List.set_cons_succ]
                  have hd := hd.trans hcq
                  have hbr := hbr.never hcq
                  have hnq : OwnN 31 w wq (.slice va vn vc) L := hn.never hd
                  have hy : Dat.rd wq (fun k => Never k ∨ (Value.slice va vn vc).ownBlock = some k) [.string ⟨#[104, 97, 110, 100, 115, 116, 105, 116, 99, 104]⟩, .string (toB (subjL (i + 1) n t.data.toList)), .string (toB (idL (i + 1) n)), .slice (some ba) S.size bc] (packOne t.data.toList n (i + 1) c) := ⟨_, rfl, by show (toB handW).size ≤ _; rw [toB_size']; decide, zs, zi, hn.fresh hbr⟩
                  refine' tk 7 ?_
                  have hSX := hH
                  refine wpAnyH_ready (rs := [8]) (by kernel_rfl) (by simp) ?_
                  refine AllReadyH.cons rfl (fun K hK => ?_) AllReadyH.nil
                  go_simp
                  refine hK.out _ _ (pkeep hSX ((Chg.refl Never _).alloc _) (fun _ h => h.elim) hBO) (fun hH => ?_)
                  clear hK K
                  try simp only [Act.put, List.setIfInBounds_toArray, List.set_cons_zero, List.set_cons_succ]
                  refine wpAnyH_ready (rs := [9]) (by kernel_rfl) (by simp) ?_
                  refine AllReadyH.cons rfl (fun K hK => ?_) AllReadyH.nil
                  refine step_push (by rfl) _ _ 24 (by rfl) elemOk_mail (O := Never) (l := L) (y := packOne t.data.toList n (i + 1) c) (by rfl) (by rfl) (by simp) hnq.own hy (fun _ h => h.elim) hLl ?_
                  intro v' w5 hown5 hc5 hk5
                  refine hK.out _ _ (pkeep hSX hc5 (fun _ h => h) hBO) (fun hH => ?_)
                  clear hK K
                  try simp only [Act.put, List.setIfInBounds_toArray, List.set_cons_zero, List.set_cons_succ]
                  refine' tk 10 ?_
                  refine wpAnyH_done (by kernel_rfl) ?_ _
                  have hn5 := hnq.step1 hown5 hc5 hk5
                  obtain ⟨oa, on, oc, rfl⟩ := own_isSlice hn5.own
                  clear hown5 hc5 hk5 hnq hy hSX hd hbr hb3 hc3 hcv3
                  go_wp2_with fail
                  go_roundw
                  case rel => exact ⟨i + 1, hin, by go_num, by rw [HPT.out]; exact hn5, HS2⟩
                  case measure => simp [intOf] <;> omega
              · obtain ⟨ba, bc, w3, hcv3, hc3, hb3⟩ := conv_made (w := wB.drew) (s := S) hSm
                have hbr : Rdv w3 (Old wr.heap.size) (.slice (some ba) S.size bc) (textG c) := by
                  rw [← HST.out]
                  exact hb3.sub (fun k _ hk => by unfold Old at hk ⊢; have := hd.size; omega)
                go_simp
                have hd := hd.trans hc3
                refine hK.out _ _ (pkeep hH hc3 (fun _ h => h.elim) hBO) (fun hH => ?_)
                clear hK K
                try simp only [Act.put, List.setIfInBounds_toArray, List.set_cons_zero, List.set_cons_succ]
                refine wpAnyH_ready (rs := [2]) (by kernel_rfl) (by simp) ?_
                refine AllReadyH.cons rfl (fun K hK => ?_) AllReadyH.nil
                go_simp
                go_at_call 44
                refine (FSi.out _).mono ?_
                rintro e wq ⟨rfl, hcq⟩
                try go_wp2_with fail
                refine hK.out _ _ (pkeep hH hcq (fun _ h => h.elim) hBO) (fun hH => ?_)
                clear hK K
                try simp only [Act.put, List.setIfInBounds_toArray, List.set_cons_zero, List.set_cons_succ]
                have hd := hd.trans hcq
                have hbr := hbr.never hcq
                refine wpAnyH_ready (rs := [4]) (by kernel_rfl) (by simp) ?_
                refine AllReadyH.cons rfl (fun K hK => ?_) AllReadyH.nil
                go_simp
                go_at_call 45
                refine (FIi.out _).mono ?_
                rintro e wq ⟨rfl, hcq⟩
                try go_wp2_with fail
                refine hK.out _ _ (pkeep hH hcq (fun _ h => h.elim) hBO) (fun hH => ?_)
                clear hK K
                try simp only [Act.put, List.setIfInBounds_toArray, List.set_cons_zero, List.set_cons_succ]
                have hd := hd.trans hcq
                have hbr := hbr.never hcq
                have hnq : OwnN 31 w wq (.slice va vn vc) L := hn.never hd
                have hy : Dat.rd wq (fun k => Never k ∨ (Value.slice va vn vc).ownBlock = some k) [.string ⟨#[104, 97, 110, 100, 115, 116, 105, 116, 99, 104]⟩, .string (toB (subjL (i + 1) n t.data.toList)), .string (toB (idL (i + 1) n)), .slice (some ba) S.size bc] (packOne t.data.toList n (i + 1) c) := ⟨_, rfl, by show (toB handW).size ≤ _; rw [toB_size']; decide, zs, zi, hn.fresh hbr⟩
                refine' tk 7 ?_
                have hSX := hH
                refine wpAnyH_ready (rs := [8]) (by kernel_rfl) (by simp) ?_
                refine AllReadyH.cons rfl (fun K hK => ?_) AllReadyH.nil
                go_simp
                refine hK.out _ _ (pkeep hSX ((Chg.refl Never _).alloc _) (fun _ h => h.elim) hBO) (fun hH => ?_)
                clear hK K
                try simp only [Act.put, List.setIfInBounds_toArray, List.set_cons_zero, List.set_cons_succ]
                refine wpAnyH_ready (rs := [9]) (by kernel_rfl) (by simp) ?_
                refine AllReadyH.cons rfl (fun K hK => ?_) AllReadyH.nil
                refine step_push (by rfl) _ _ 24 (by rfl) elemOk_mail (O := Never) (l := L) (y := packOne t.data.toList n (i + 1) c) (by rfl) (by rfl) (by simp) hnq.own hy (fun _ h => h.elim) hLl ?_
                intro v' w5 hown5 hc5 hk5
                refine hK.out _ _ (pkeep hSX hc5 (fun _ h => h) hBO) (fun hH => ?_)
                clear hK K
                try simp only [Act.put, List.setIfInBounds_toArray, List.set_cons_zero, List.set_cons_succ]
                refine' tk 10 ?_
                refine wpAnyH_done (by kernel_rfl) ?_ _
                have hn5 := hnq.step1 hown5 hc5 hk5
                obtain ⟨oa, on, oc, rfl⟩ := own_isSlice hn5.own
                clear hown5 hc5 hk5 hnq hy hSX hd hbr hb3 hc3 hcv3
                go_wp2_with fail
                go_roundw
                case rel => exact ⟨i + 1, hin, by go_num, by rw [HPT.out]; exact hn5, HS2⟩
                case measure => simp [intOf] <;> omega
          · have HPF : packFault c = (patchFault c).2 := if_pos hz
            have HF2 : Hid (packF t.data.toList p = (patchFault c).2) := by rw [Hid, HF.out, st2 (by rw [HPF]; exact hz), HPF]
            have HR : Hid (packR t.data.toList p = []) := if_neg (by rw [HF2.out]; exact hz)
            have HZ := Lib.hid hz
            rw [errV_pos hz]
            generalize gitR c = G
            generalize (patchFault c).2 = fz at HF2 HZ ⊢
            clear HPF hz st1 st2 hcv
            go_wp2_with fail
            go_ret2
            exact ⟨_, by rw [HF2.out, errV_pos HZ.out]; try rfl, hn1.chg, by rw [HR.out]; exact rdv_nil _ _⟩
        · obtain rfl : n = i := by omega
          have hf' := hf.out
          rw [List.drop_of_length_le (by have := HN.out; omega)] at hf'
          have HF2 : Hid (packF t.data.toList p = 0) := by rw [Hid, HF.out, ← hf']; rfl
          have HR : Hid (packR t.data.toList p = packL t.data.toList p) := if_pos HF2.out
          have hnL : OwnN 31 w wr (.slice va vn vc) (packL t.data.toList p) := by
            have := hn
            rw [List.take_of_length_le (by have := HN.out; omega)] at this
            rw [HPL.out]
            exact this
          clear hf hf' hn
          go_wp2_with fail
          go_ret2
          exact ⟨_, by rw [HF2.out]; rfl, hnL.chg, by rw [HR.out]; exact hnL.own.rdv⟩
end Go.Proofs.YtjiaidchcldocaaGreatDoor
namespace Go.Proofs.YtjiaidchcldocaaGreatDoor
open Go.RowKit

theorem tkeep {w2 wr wq : World} {p q r : Addr} {a b c : Value} (h : Chg Never w2 wr ∧ wr.cell? p = some a ∧ wr.cell? q = some b ∧ wr.cell? r = some c) (k : Chg Never wr wq) : Chg Never w2 wq ∧ wq.cell? p = some a ∧ wq.cell? q = some b ∧ wq.cell? r = some c :=
  ⟨h.1.trans k, k.cellNever h.2.1, k.cellNever h.2.2.1, k.cellNever h.2.2.2⟩
set_option maxHeartbeats 2000000 in
set_option maxRecDepth 100000 in
theorem refHunksText_any (l : List Hunk) (v : Value) (w : World) (h : Rdv w Never v l) (hz : (hunksFault l).2 = 0) :
    Calls Tryz.prog 104 #[v] w fun e w' => e = .returned (.string (toB (textU l))) ∧ Chg Never w w' := by
  obtain ⟨a, cap, rfl, h1, h2, h3⟩ := rdv_slice h
  unfold maxLen at h2
  have hTL := Lib.hid (hunks_ok hz).2.2
  have hH := Lib.hid (hunks_each hz)
  clear hz
  go_enter Tryz.func104, Tryz.ntmps104
  go_wp2_with fail
  go_loopw [3, 4] (fun sv i wr => ∃ k : Nat, k ≤ l.length ∧ i = .int .i64 k ∧ sv = .string (toB (textU (l.take k))) ∧ Chg Never w wr) (fun _ i _ => l.length - (intOf i).toNat)
  case atStart => exact ⟨0, Nat.zero_le _, rfl, rfl, Chg.refl _ _⟩
  case round =>
    obtain ⟨k, hk, rfl, rfl, hc⟩ := hrel
    rename World => wr
    by_cases hlt : k < l.length
    · obtain ⟨x, hx⟩ : ∃ x, l[k]? = some x := ⟨l[k], by simp [hlt]⟩
      obtain ⟨b', off, mv, rfl, hnb, -, c0, c1, c2, hmv⟩ := elems_hunk h3 hx
      obtain ⟨e1, e2, e3, e4, e5, e6, e7⟩ := hH.out x (List.mem_of_getElem? hx)
      have E1 := Lib.hid e1
      have HT := Lib.hid (textU_take hx)
      have hTk := @textU_mono l k
      have hTLo := hTL.out
      obtain ⟨ma, mc, rfl, -, -, hme⟩ := rdv_slice hmv
      have c0 := hc.cellNever c0
      have c1 := hc.cellNever c1
      have c2 := hc.cellNever c2
      have hmr : Rdv wr Never (.slice ma x.marks.length mc) x.marks := hmv.never hc
      have hA : Chg Never wr (wr.alloc (.cells #[.int .i64 x.old, .int .i64 x.new, .slice ma x.marks.length mc] 129)) := (Chg.refl Never wr).alloc _
      have hbox := Blk3.new wr 129 (.int .i64 x.old) (.int .i64 x.new) (.slice ma x.marks.length mc)
      have hmA := hmr.never hA
      have hzk : (toB (textU (l.take k))).size ≤ 400000 := by rw [toB_size']; omega
      clear hx h3 h hmr hmv e1
      go_wp2_with fail
      clear c0 c1 c2
      generalize wr.alloc (.cells #[.int .i64 x.old, .int .i64 x.new, .slice ma x.marks.length mc] 129) = w2 at hA hbox hmA ⊢
      obtain ⟨g0, g1, g2⟩ := hbox.cell
      obtain ⟨S, hS⟩ : ∃ S, toB (textU (l.take k)) = S := ⟨_, rfl⟩
      rw [hS] at hzk ⊢
      have HK := Lib.hid hS
      clear hS
      have hl1 : (spanL x.old (oldN x.marks)).length ≤ 7 := span_len e2 (by omega) (by omega)
      have hl2 : (spanL x.new (newN x.marks)).length ≤ 7 := span_len e4 (by omega) (by omega)
      have FS1 : ∀ wx, Calls Tryz.prog 159 #[.int .i64 x.old, .int .i64 ((those x.marks 43).length : Nat)] wx fun e w' => e = .returned (.string (toB (spanL x.old (oldN x.marks)))) ∧ wx = w' := fun wx => refSpan_any _ _ e2 (by omega) (by show oldN x.marks < 1000; omega) wx
      have FS2 : ∀ wx, Calls Tryz.prog 159 #[.int .i64 x.new, .int .i64 ((those x.marks 45).length : Nat)] wx fun e w' => e = .returned (.string (toB (spanL x.new (newN x.marks)))) ∧ wx = w' := fun wx => refSpan_any _ _ e4 (by omega) (by show newN x.marks < 1000; omega) wx
      obtain ⟨S1, hS1⟩ : ∃ S1, toB (spanL x.old (oldN x.marks)) = S1 := ⟨_, rfl⟩
      obtain ⟨S2, hS2⟩ : ∃ S2, toB (spanL x.new (newN x.marks)) = S2 := ⟨_, rfl⟩
      have hz1 : S1.size ≤ 7 := by rw [← hS1, toB_size']; exact hl1
      have hz2 : S2.size ≤ 7 := by rw [← hS2, toB_size']; exact hl2
      rw [hS1] at FS1
      rw [hS2] at FS2
      have HS1 := Lib.hid hS1
      have HS2 := Lib.hid hS2
      clear hS1 hS2
      have n1 : ¬ (9223372036854775807 < S.size + 4) := by omega
      have n2 : ¬ (9223372036854775807 < S.size + 4 + S1.size) := by omega
      have n3 : ¬ (9223372036854775807 < S.size + 4 + S1.size + 2) := by omega
      have n4 : ¬ (9223372036854775807 < S.size + 4 + S1.size + 2 + S2.size) := by omega
      have n5 : ¬ (9223372036854775807 < S.size + 4 + S1.size + 2 + S2.size + 4) := by omega
      refine wp_region_held_drew (S := fun w' => Chg Never w2 w' ∧ w'.cell? ⟨wr.heap.size, 0, none⟩ = some (.int .i64 x.old) ∧ w'.cell? ⟨wr.heap.size, 1, none⟩ = some (.int .i64 x.new) ∧ w'.cell? ⟨wr.heap.size, 2, none⟩ = some (.slice ma x.marks.length mc)) (by kernel_rfl) ⟨(Chg.refl Never w2).drew, g0, g1, g2⟩ (fun hH => ?_)
      refine' tk 0 ?_
      refine' tk 1 ?_
      refine' tk 2 ?_
      refine' tk 3 ?_
      refine' tk 4 ?_
      refine' tk 5 ?_
      refine' tk 11 ?_
      refine' tk 12 ?_
      refine' tk 13 ?_
      refine' tk 14 ?_
      refine wpAnyH_ready (rs := [6]) (by kernel_rfl) (by simp) ?_
      refine AllReadyH.cons rfl (fun K hK => ?_) AllReadyH.nil
      go_simp
      (go_at_call 102; refine (refOld_any x.marks _ _ (hmA.never (And.left (by assumption))) E1.out).mono ?_; rintro e wq ⟨rq, rfl, hcq, hrq⟩; obtain ⟨qa, qc, rfl, _, _, _⟩ := rdv_slice hrq; have hS2 := tkeep (by assumption) hcq)
      try go_wp2_with fail
      refine hK.out _ _ ?_ (fun hH => ?_)
      · assumption
      clear hK K
      try simp only [Act.put, List.setIfInBounds_toArray, List.set_cons_zero, List.set_cons_succ]
      refine' tk 7 ?_
      refine wpAnyH_ready (rs := [8]) (by kernel_rfl) (by simp) ?_
      refine AllReadyH.cons rfl (fun K hK => ?_) AllReadyH.nil
      go_simp
      (go_at_call 159; refine (FS1 _).mono ?_; rintro e wq ⟨rfl, rfl⟩)
      try go_wp2_with fail
      refine hK.out _ _ ?_ (fun hH => ?_)
      · assumption
      clear hK K
      try simp only [Act.put, List.setIfInBounds_toArray, List.set_cons_zero, List.set_cons_succ]
      refine' tk 9 ?_
      refine' tk 10 ?_
      refine wpAnyH_ready (rs := [15]) (by kernel_rfl) (by simp) ?_
      refine AllReadyH.cons rfl (fun K hK => ?_) AllReadyH.nil
      go_simp
      (go_at_call 103; refine (refNew_any x.marks _ _ (hmA.never (And.left (by assumption))) E1.out).mono ?_; rintro e wq ⟨rq, rfl, hcq, hrq⟩; obtain ⟨qa, qc, rfl, _, _, _⟩ := rdv_slice hrq; have hS2 := tkeep (by assumption) hcq)
      try go_wp2_with fail
      refine hK.out _ _ ?_ (fun hH => ?_)
      · assumption
      clear hK K
      try simp only [Act.put, List.setIfInBounds_toArray, List.set_cons_zero, List.set_cons_succ]
      refine' tk 16 ?_
      refine wpAnyH_ready (rs := [17]) (by kernel_rfl) (by simp) ?_
      refine AllReadyH.cons rfl (fun K hK => ?_) AllReadyH.nil
      go_simp
      (go_at_call 159; refine (FS2 _).mono ?_; rintro e wq ⟨rfl, rfl⟩)
      try go_wp2_with fail
      refine hK.out _ _ ?_ (fun hH => ?_)
      · assumption
      clear hK K
      try simp only [Act.put, List.setIfInBounds_toArray, List.set_cons_zero, List.set_cons_succ]
      refine' tk 18 ?_
      refine' tk 19 ?_
      refine' tk 20 ?_
      refine wpAnyH_done (by kernel_rfl) ?_ _
      rename (Chg Never w2 _ ∧ _) => hF
      obtain ⟨hw3, k0, k1, k2⟩ := hF
      clear g0 g1 g2 n1 n2 n3 n4 n5
      rename World => w3
      go_wp2_with fail
      obtain ⟨T, hT⟩ : ∃ T, S ++ (⟨#[64, 64, 32, 45]⟩ : ByteArray) ++ S1 ++ ⟨#[32, 43]⟩ ++ S2 ++ ⟨#[32, 64, 64, 10]⟩ = T := ⟨_, rfl⟩
      have hTz : T.size ≤ 400100 := by rw [← hT, ByteArray.size_append, ByteArray.size_append, ByteArray.size_append, ByteArray.size_append, ByteArray.size_append]; show S.size + 4 + S1.size + 2 + S2.size + 4 ≤ _; omega
      have HT2 : Hid (T = toB (textU (l.take k) ++ (headL x.old (oldN x.marks) x.new (newN x.marks) ++ [10]))) := by
        rw [Hid, ← hT, toB_append, ← head_row, HS1.out, HS2.out, HK.out]
        simp only [ByteArray.append_assoc]; rfl
      rw [hT]
      have hmw := hmA.never hw3
      have HMK := Lib.hid (marks_ok E1.out)
      have hml := scriptFault_len E1.out
      obtain ⟨_, _, hq, -, -, hme3⟩ := rdv_slice hmw
      injection hq with hq1 _ hq2
      subst hq1 hq2
      have HUL := Lib.hid (hunkR_head x)
      have hcw3 := (hc.trans hA).trans hw3
      clear hT hmw hmA hw3 k0 k1 hA hbox hme hc FS1 FS2 hrq hcq hS2
      go_loopw [3, 6] (fun sv i wi => ∃ (q : Nat) (U : ByteArray), q ≤ x.marks.length ∧ i = .int .i64 q ∧ sv = .string U ∧ U.size ≤ 420000 ∧ Hid (U = T ++ toB (textL ((x.marks.take q).map markL))) ∧ Chg Never w3 wi) (fun _ i _ => x.marks.length - (intOf i).toNat)
      case atStart => exact ⟨0, T, Nat.zero_le _, rfl, rfl, by omega, by rw [Hid]; show T = T ++ ByteArray.empty; exact ByteArray.append_empty.symm, Chg.refl _ _⟩
      case round =>
        obtain ⟨q, U, hq, rfl, rfl, hUz, hU, hci⟩ := hrel
        rename World => wi
        have k2 := hci.cellNever k2
        by_cases hql : q < x.marks.length
        · obtain ⟨y, hy⟩ : ∃ y, x.marks[q]? = some y := ⟨x.marks[q], by simp [hql]⟩
          obtain ⟨yb, yoff, rfl, -, -, d0, d1, -, -, hys⟩ := elems_mark hme3 hy
          obtain ⟨m1, m2, m3⟩ := mark_ok (HMK.out y (List.mem_of_getElem? hy))
          have HMT := Lib.hid (textM_take hy)
          have hsg : y.sign = ((signOf y).toNat : Int) := by unfold signOf; rcases m1 with e | e | e <;> rw [e] <;> rfl
          have d0 := hci.cellNever d0
          have d1 := hci.cellNever d1
          rw [hsg] at d0
          obtain ⟨c, hce⟩ : ∃ c, signOf y = c := ⟨_, rfl⟩
          rw [hce] at d0 HMT
          have hmt := marks_take_len (q := q + 1) HMK.out hml
          have hU2 : Hid (U ++ toB [c] ++ y.text ++ ⟨#[10]⟩ = T ++ toB (textL ((x.marks.take (q + 1)).map markL))) := by
            rw [Hid, hU.out, HMT.out]
            apply ByteArray.ext
            apply Array.toList_inj.1
            simp only [bytes_append, toB_data]
            simp
          have hzU : (T ++ toB (textL ((x.marks.take (q + 1)).map markL))).size ≤ 420000 := by rw [ByteArray.size_append, toB_size']; omega
          have hyz : y.text.size ≤ 100 := by omega
          have hcc : (toB [c]).size = 1 := rfl
          have n1 : ¬ (9223372036854775807 < U.size + 1) := by omega
          have n2 : ¬ (9223372036854775807 < U.size + 1 + y.text.size) := by omega
          have n3 : ¬ (9223372036854775807 < U.size + 1 + y.text.size + 1) := by omega
          have n0 := heap_alloc_new wi (.cells #[.int .u8 c.toNat] 5)
          have hcv : (convert 29 9 (.slice (some ⟨wi.heap.size, 0, none⟩) 1 1)).run Tryz.prog (wi.alloc (.cells #[.int .u8 c.toNat] 5)).drew = .ok (.string (toB [c])) (wi.alloc (.cells #[.int .u8 c.toNat] 5)).drew := by
            have hrl : Rdv (wi.alloc (.cells #[.int .u8 c.toNat] 5)) Never (.slice (some ⟨wi.heap.size, 0, none⟩) 1 1) [c] := rdv_lit (cs := [.int .u8 c.toNat]) n0 rfl (by decide) ⟨rfl, trivial⟩
            exact conv_str (hrl.never (Chg.refl Never _).drew)
          clear n0
          clear hy hce hsg hme3 HMT hmt
          go_wp2_with fail
          refine wp_region_held_drew (S := fun w' => Chg Never wi w' ∧ w'.cell? ⟨wr.heap.size, 2, none⟩ = some (.slice (some ⟨yb, yoff, none⟩) x.marks.length mc) ∧ w'.cell? ⟨yb, yoff + q * 2, none⟩ = some (.int .u8 c.toNat) ∧ w'.cell? ⟨yb, yoff + q * 2 + 1, none⟩ = some (.string y.text)) (by kernel_rfl) ⟨(Chg.refl Never wi).drew, k2, d0, d1⟩ (fun hH => ?_)
          refine' tk 0 ?_
          refine' tk 1 ?_
          refine' tk 2 ?_
          refine' tk 3 ?_
          refine' tk 4 ?_
          refine' tk 5 ?_
          refine' tk 6 ?_
          refine' tk 10 ?_
          refine' tk 11 ?_
          refine' tk 12 ?_
          refine' tk 13 ?_
          refine' tk 14 ?_
          refine' tk 15 ?_
          refine wpAnyH_ready (rs := [7]) (by kernel_rfl) (by simp) ?_
          refine AllReadyH.cons rfl (fun K hK => ?_) AllReadyH.nil
          go_simp
          refine hK.out _ _ ?_ (fun hH => ?_)
          · exact tkeep (by assumption) ((Chg.refl Never _).alloc _)
          clear hK K
          try simp only [Act.put, List.setIfInBounds_toArray, List.set_cons_zero, List.set_cons_succ]
          refine wpAnyH_ready (rs := [8]) (by kernel_rfl) (by simp) ?_
          refine AllReadyH.cons rfl (fun K hK => ?_) AllReadyH.nil
          go_simp
          refine hK.out _ _ ?_ (fun hH => ?_)
          · assumption
          clear hK K
          try simp only [Act.put, List.setIfInBounds_toArray, List.set_cons_zero, List.set_cons_succ]
          refine' tk 9 ?_
          refine' tk 16 ?_
          refine' tk 17 ?_
          refine' tk 18 ?_
          refine wpAnyH_done (by kernel_rfl) ?_ _
          rename (Chg Never wi _ ∧ _) => hF
          have hcF := hF.1
          clear hF d0 d1 k2
          go_wp2_with fail
          go_roundw
          case rel => exact ⟨q + 1, _, by omega, by go_num, rfl, by rw [hU2.out]; exact hzU, hU2.out, hci.trans hcF⟩
          case measure => simp [intOf]; omega
        · rw [List.take_of_length_le (by omega)] at hU
          have hfin : Hid (U = toB (textU (l.take (k + 1)))) := by
            rw [Hid, hU.out, HT2.out, HT.out, HUL.out, ← toB_append]
            simp
          have hcf := hcw3.trans hci
          clear hU
          go_wp2_with fail
          go_roundw
          case rel => exact ⟨k + 1, by omega, by go_num, by rw [hfin.out], hcf⟩
          case measure => simp [intOf]; omega
    · rw [List.take_of_length_le (by omega)]
      go_wp2_with fail
      go_ret
      exact ⟨rfl, hc⟩
end Go.Proofs.YtjiaidchcldocaaGreatDoor
namespace Go.Proofs.YtjiaidchcldocaaGreatDoor
open Go.RowKit

set_option maxHeartbeats 2000000 in
set_option maxRecDepth 100000 in
theorem refPatchText_any (p : List Change) (v : Value) (w : World) (h : Rdv w Never v p) (hz : (patchFault p).2 = 0) :
    Calls Tryz.prog 51 #[v] w fun e w' => e = .returned (.string (toB (textG p))) ∧ Chg Never w w' := by
  obtain ⟨p16, pall⟩ := patch_each hz
  have hTL := (changes_ok p pall).2
  have HALL := Lib.hid pall
  obtain ⟨a, cap, rfl, h1, h2, h3⟩ := rdv_slice h
  unfold maxLen at h2
  clear hz pall h
  go_enter Tryz.func51, Tryz.ntmps51
  go_wp2_with fail
  go_loopw [3, 4] (fun sv i wr => ∃ (k : Nat) (acc : ByteArray), k ≤ p.length ∧ i = .int .i64 k ∧ sv = .string acc ∧ acc.size ≤ 181440 ∧ Hid (acc = toB (textG (p.take k))) ∧ Chg Never w wr) (fun _ i _ => p.length - (intOf i).toNat)
  case atStart => exact ⟨0, _, Nat.zero_le _, rfl, rfl, Nat.zero_le _, rfl, Chg.refl _ _⟩
  case round =>
    obtain ⟨k, acc, hk, rfl, rfl, hzA, hJ, hc⟩ := hrel
    rename World => wr
    by_cases hlt : k < p.length
    · obtain ⟨x, hx⟩ : ∃ x, p[k]? = some x := ⟨p[k], by simp [hlt]⟩
      obtain ⟨b', off, mv, rfl, -, -, c0, c1, c2, hxp, hmv⟩ := elems_change h3 hx
      have c0 := hc.cellNever c0
      have c1 := hc.cellNever c1
      have c2 := hc.cellNever c2
      have hmr := hmv.never hc
      obtain ⟨ma, mc, rfl, -, -, -⟩ := rdv_slice hmv
      obtain ⟨x1, x2, x3⟩ := change_ok (HALL.out x (List.mem_of_getElem? hx))
      obtain ⟨xl, -⟩ := path_fine x2
      have X3 := Lib.hid x3
      have HT := Lib.hid (textG_take hx)
      have hTk := @textG_mono p k
      have hTk1 := @textG_mono p (k + 1)
      have hUl : (textU x.hunks).length ≤ (textG (p.take (k + 1))).length := by rw [HT.out]; simp only [List.length_append]; omega
      have hpz : x.path.size ≤ 20 := by rw [Lib.size_eq]; exact xl
      have n1 : ¬ (9223372036854775807 < 2 + x.path.size) := by omega
      clear hx h3 hmv x2 x3 xl
      rcases x1 with x1 | x1 | x1
      · have q2 : (x.what == 2) = false := by rw [x1]; rfl
        have q3 : (x.what == 3) = false := by rw [x1]; rfl
        have XW := Lib.hid x1
        have HS : Hid ((⟨#[45, 45, 45, 32]⟩ : ByteArray) ++ ((⟨#[97, 47]⟩ : ByteArray) ++ x.path) ++ ⟨#[10, 43, 43, 43, 32]⟩ ++ ((⟨#[98, 47]⟩ : ByteArray) ++ x.path) ++ ⟨#[10]⟩ = toB (mmL ++ fromL x.what x.path.data.toList ++ [10] ++ (ppL ++ toL x.what x.path.data.toList ++ [10]))) := gp_str _ _ _ _ (by (rw [XW.out]; exact gp_pre 97 47 x.path)) (by (rw [XW.out]; exact gp_pre 98 47 x.path))
        have hFz : ((⟨#[97, 47]⟩ : ByteArray) ++ x.path : ByteArray).size ≤ 22 := by (rw [ByteArray.size_append]; show 2 + x.path.size ≤ 22; omega)
        have hTz : ((⟨#[98, 47]⟩ : ByteArray) ++ x.path : ByteArray).size ≤ 22 := by (rw [ByteArray.size_append]; show 2 + x.path.size ≤ 22; omega)
        have HF : Hid (acc ++ ⟨#[45, 45, 45, 32]⟩ ++ ((⟨#[97, 47]⟩ : ByteArray) ++ x.path) ++ ⟨#[10, 43, 43, 43, 32]⟩ ++ ((⟨#[98, 47]⟩ : ByteArray) ++ x.path) ++ ⟨#[10]⟩ ++ toB (textU x.hunks) = toB (textG (p.take (k + 1)))) := by
          rw [Hid, HT.out, toB_append, toB_append, ← hJ.out, ← HS.out]
          simp only [ByteArray.append_assoc]
        have hUz : (toB (textU x.hunks)).size ≤ 200000 := by rw [toB_size']; omega
        clear x1
        go_wp2_with fail
        refine (refHunksText_any x.hunks _ _ hmr X3.out).mono ?_
        rintro e w5 ⟨rfl, hc5⟩
        clear c0 c1 c2
        go_wp2_with fail
        go_roundw
        case rel => exact ⟨k + 1, _, by omega, by go_num, rfl, by rw [HF.out, toB_size']; omega, HF.out, hc.trans hc5⟩
        case measure => simp [intOf]; omega
      · have q2 : (x.what == 2) = true := by rw [x1]; rfl
        have q3 : (x.what == 3) = false := by rw [x1]; rfl
        have XW := Lib.hid x1
        have HS : Hid ((⟨#[45, 45, 45, 32]⟩ : ByteArray) ++ ((⟨#[47, 100, 101, 118, 47, 110, 117, 108, 108]⟩ : ByteArray)) ++ ⟨#[10, 43, 43, 43, 32]⟩ ++ ((⟨#[98, 47]⟩ : ByteArray) ++ x.path) ++ ⟨#[10]⟩ = toB (mmL ++ fromL x.what x.path.data.toList ++ [10] ++ (ppL ++ toL x.what x.path.data.toList ++ [10]))) := gp_str _ _ _ _ (by (rw [XW.out]; rfl)) (by (rw [XW.out]; exact gp_pre 98 47 x.path))
        have hFz : ((⟨#[47, 100, 101, 118, 47, 110, 117, 108, 108]⟩ : ByteArray) : ByteArray).size ≤ 22 := by decide
        have hTz : ((⟨#[98, 47]⟩ : ByteArray) ++ x.path : ByteArray).size ≤ 22 := by (rw [ByteArray.size_append]; show 2 + x.path.size ≤ 22; omega)
        have HF : Hid (acc ++ ⟨#[45, 45, 45, 32]⟩ ++ ((⟨#[47, 100, 101, 118, 47, 110, 117, 108, 108]⟩ : ByteArray)) ++ ⟨#[10, 43, 43, 43, 32]⟩ ++ ((⟨#[98, 47]⟩ : ByteArray) ++ x.path) ++ ⟨#[10]⟩ ++ toB (textU x.hunks) = toB (textG (p.take (k + 1)))) := by
          rw [Hid, HT.out, toB_append, toB_append, ← hJ.out, ← HS.out]
          simp only [ByteArray.append_assoc]
        have hUz : (toB (textU x.hunks)).size ≤ 200000 := by rw [toB_size']; omega
        clear x1
        go_wp2_with fail
        refine (refHunksText_any x.hunks _ _ hmr X3.out).mono ?_
        rintro e w5 ⟨rfl, hc5⟩
        clear c0 c1 c2
        go_wp2_with fail
        go_roundw
        case rel => exact ⟨k + 1, _, by omega, by go_num, rfl, by rw [HF.out, toB_size']; omega, HF.out, hc.trans hc5⟩
        case measure => simp [intOf]; omega
      · have q2 : (x.what == 2) = false := by rw [x1]; rfl
        have q3 : (x.what == 3) = true := by rw [x1]; rfl
        have XW := Lib.hid x1
        have HS : Hid ((⟨#[45, 45, 45, 32]⟩ : ByteArray) ++ ((⟨#[97, 47]⟩ : ByteArray) ++ x.path) ++ ⟨#[10, 43, 43, 43, 32]⟩ ++ ((⟨#[47, 100, 101, 118, 47, 110, 117, 108, 108]⟩ : ByteArray)) ++ ⟨#[10]⟩ = toB (mmL ++ fromL x.what x.path.data.toList ++ [10] ++ (ppL ++ toL x.what x.path.data.toList ++ [10]))) := gp_str _ _ _ _ (by (rw [XW.out]; exact gp_pre 97 47 x.path)) (by (rw [XW.out]; rfl))
        have hFz : ((⟨#[97, 47]⟩ : ByteArray) ++ x.path : ByteArray).size ≤ 22 := by (rw [ByteArray.size_append]; show 2 + x.path.size ≤ 22; omega)
        have hTz : ((⟨#[47, 100, 101, 118, 47, 110, 117, 108, 108]⟩ : ByteArray) : ByteArray).size ≤ 22 := by decide
        have HF : Hid (acc ++ ⟨#[45, 45, 45, 32]⟩ ++ ((⟨#[97, 47]⟩ : ByteArray) ++ x.path) ++ ⟨#[10, 43, 43, 43, 32]⟩ ++ ((⟨#[47, 100, 101, 118, 47, 110, 117, 108, 108]⟩ : ByteArray)) ++ ⟨#[10]⟩ ++ toB (textU x.hunks) = toB (textG (p.take (k + 1)))) := by
          rw [Hid, HT.out, toB_append, toB_append, ← hJ.out, ← HS.out]
          simp only [ByteArray.append_assoc]
        have hUz : (toB (textU x.hunks)).size ≤ 200000 := by rw [toB_size']; omega
        clear x1
        go_wp2_with fail
        refine (refHunksText_any x.hunks _ _ hmr X3.out).mono ?_
        rintro e w5 ⟨rfl, hc5⟩
        clear c0 c1 c2
        go_wp2_with fail
        go_roundw
        case rel => exact ⟨k + 1, _, by omega, by go_num, rfl, by rw [HF.out, toB_size']; omega, HF.out, hc.trans hc5⟩
        case measure => simp [intOf]; omega
    · rw [List.take_of_length_le (by omega)] at hJ
      go_wp2_with fail
      go_ret
      exact ⟨by rw [← hJ.out]; rfl, hc⟩
end Go.Proofs.YtjiaidchcldocaaGreatDoor
namespace Go.Proofs.YtjiaidchcldocaaGreatDoor
open Go.RowKit

theorem subj0_str (b : Nat) (t : ByteArray) : (⟨#[91, 80, 65, 84, 67, 72, 32, 48, 47]⟩ : ByteArray) ++ toB (Lib.decDigits b) ++ ⟨#[93, 32]⟩ ++ t = toB (subjL 0 b t.data.toList) := by
  apply ByteArray.ext
  apply Array.toList_inj.1
  simp only [bytes_append, toB_data]
  unfold subjL patW
  rw [show Lib.decDigits 0 = [48] by decide +kernel]
  simp
theorem id0_str (b : Nat) : (⟨#[48, 46]⟩ : ByteArray) ++ toB (Lib.decDigits b) = toB (idL 0 b) := by
  apply ByteArray.ext
  apply Array.toList_inj.1
  simp only [bytes_append, toB_data]
  unfold idL
  rw [show Lib.decDigits 0 = [48] by decide +kernel]
  simp
theorem decI_any (i : Nat) (k : Int) (hk : k = i) (hi : i ≤ 8) (w : World) : Calls Tryz.prog 49 #[.int .i64 k] w fun e w' => e = .returned (.string (toB (Lib.decDigits i))) ∧ w' = w := by
  subst hk
  exact (dec_any i (by omega) w).mono fun _ _ h => ⟨h.1, h.2.symm⟩
def PackOfPost (t : ByteArray) (p : List (List Change)) (w : World) (e : Ending) (w' : World) : Prop := ∃ r, e = .returned (.tuple #[r, .int .i64 (packF t.data.toList p)]) ∧ Chg Never w w' ∧ Rdv w' Never r (packR t.data.toList p)
theorem packOf_no {t : ByteArray} {p : List (List Change)} {w w' : World} {e : Ending} {k : Int} (hk : packF t.data.toList p = k) (h0 : k ≠ 0) (he : e = .returned (.tuple #[.slice none 0 0, .int .i64 k])) (hc : Chg Never w w') : PackOfPost t p w e w' :=
  ⟨_, by rw [hk]; exact he, hc, by unfold packR; rw [if_neg (by rw [hk]; exact h0)]; exact rdv_nil _ _⟩
set_option maxHeartbeats 1000000 in
set_option maxRecDepth 100000 in
theorem refPackOf_any (t : ByteArray) (p : List (List Change)) (v : Value) (w : World) (h : Rdv w Never v p) (ht : t.size ≤ 1000000000) :
    Calls Tryz.prog 17 #[.string t, v] w (PackOfPost t p w) := by
  obtain ⟨a, cap, rfl, h1, h2, h3⟩ := rdv_slice h
  unfold maxLen at h2
  have htm : t.size ≤ maxLen := by unfold maxLen; omega
  by_cases h8 : 8 < p.length
  · have HF : Hid (packF t.data.toList p = 3) := if_pos h8
    have t1 : decide ((8 : Int) < (p.length : Int)) = true := decide_eq_true (by omega)
    clear h h3
    go_enter Tryz.func17, Tryz.ntmps17
    go_wp2_with fail
    go_ret2
    exact packOf_no HF.out (by decide) rfl (Chg.refl _ _)
  · have t1 : decide ((8 : Int) < (p.length : Int)) = false := decide_eq_false (by omega)
    cases htt : titledB t.data.toList with
    | false =>
      have HF : Hid (packF t.data.toList p = 5) := (if_neg h8).trans (if_pos htt)
      have HT := Lib.hid htt
      clear h h3 htt
      go_enter Tryz.func17, Tryz.ntmps17
      go_wp2_with fail
      refine (ref_title_any t _ htm).mono ?_
      rintro e w1 ⟨rfl, rfl⟩
      rename World => w
      rw [HT.out]
      go_wp2_with fail
      go_ret2
      exact packOf_no HF.out (by decide) rfl (Chg.refl _ _)
    | true =>
      have hF0 : packF t.data.toList p = firstOf packFault p := (if_neg h8).trans (if_neg (by rw [htt]; decide))
      have HF := Lib.hid hF0
      have HT := Lib.hid htt
      have htl := (titled_ok htt).2.1
      rw [← Lib.size_eq] at htl
      obtain ⟨n, hN⟩ : ∃ n, p.length = n := ⟨_, rfl⟩
      have HN := Lib.hid hN
      have hn8 : n ≤ 8 := by omega
      have HPL : Hid (packL t.data.toList p = partMail t.data.toList 0 n [] :: packGo t.data.toList n 1 p) := by unfold Hid packL; rw [hN]
      have FD := Lib.hid (decI_any n (n : Int) rfl hn8)
      have FDi : Hid (∀ (i : Nat) (k : Int), k = i → i ≤ 8 → ∀ wx, Calls Tryz.prog 49 #[.int .i64 k] wx fun e w' => e = .returned (.string (toB (Lib.decDigits i))) ∧ w' = wx) := fun i k hk hi wx => decI_any i k hk hi wx
      have z0 : (toB (Lib.decDigits n)).size = 1 := by rw [toB_size', dig_small n hn8]
      have hs0 := subj0_str n t
      have hi0 := id0_str n
      have HSI : Hid (∀ i : Nat, (⟨#[91, 80, 65, 84, 67, 72, 32]⟩ : ByteArray) ++ toB (Lib.decDigits i) ++ ⟨#[47]⟩ ++ toB (Lib.decDigits n) ++ ⟨#[93, 32]⟩ ++ t = toB (subjL i n t.data.toList)) := fun i => subj_str i n t
      have HII : Hid (∀ i : Nat, toB (Lib.decDigits i) ++ ⟨#[46]⟩ ++ toB (Lib.decDigits n) = toB (idL i n)) := fun i => id_str i n
      obtain ⟨D, hD⟩ : ∃ D, toB (Lib.decDigits n) = D := ⟨_, rfl⟩
      rw [hD] at FD z0 hs0 hi0 HSI HII
      have HS0 := Lib.hid hs0
      have HI0 := Lib.hid hi0
      have n1 : ¬ (9223372036854775807 < 9 + D.size) := by omega
      have n2 : ¬ (9223372036854775807 < 9 + D.size + 2) := by omega
      have n3 : ¬ (9223372036854775807 < 9 + D.size + 2 + t.size) := by omega
      have n4 : ¬ (9223372036854775807 < 2 + D.size) := by omega
      have n5 : ¬ (9223372036854775807 < 12 + t.size) := by omega
      rw [hN] at h1 t1 ⊢
      clear h htt h8 hF0 hN hs0 hi0 hD
      go_enter Tryz.func17, Tryz.ntmps17
      go_wp2_with fail
      refine (ref_title_any t _ htm).mono ?_
      rintro e w1 ⟨rfl, rfl⟩
      rename World => w
      rw [HT.out]
      go_wp2_with fail
      refine (FD.out _).mono ?_
      rintro e w1 ⟨rfl, rfl⟩
      rename World => w
      have hn1 := heap_alloc_new w (.cells #[.string ⟨#[104, 97, 110, 100, 115, 116, 105, 116, 99, 104]⟩, .string ((⟨#[91, 80, 65, 84, 67, 72, 32, 48, 47]⟩ : ByteArray) ++ D ++ ⟨#[93, 32]⟩ ++ t), .string ((⟨#[48, 46]⟩ : ByteArray) ++ D), .slice none 0 0] 31)
      have hcF : Chg Never w (w.alloc (.cells #[.string ⟨#[104, 97, 110, 100, 115, 116, 105, 116, 99, 104]⟩, .string ((⟨#[91, 80, 65, 84, 67, 72, 32, 48, 47]⟩ : ByteArray) ++ D ++ ⟨#[93, 32]⟩ ++ t), .string ((⟨#[48, 46]⟩ : ByteArray) ++ D), .slice none 0 0] 31)) := (Chg.refl Never w).alloc _
      go_wp2_with fail
      clear n1 n2 n3 n4 n5
      generalize hwL : w.alloc (.cells #[.string ⟨#[104, 97, 110, 100, 115, 116, 105, 116, 99, 104]⟩, .string ((⟨#[91, 80, 65, 84, 67, 72, 32, 48, 47]⟩ : ByteArray) ++ D ++ ⟨#[93, 32]⟩ ++ t), .string ((⟨#[48, 46]⟩ : ByteArray) ++ D), .slice none 0 0] 31) = wL at hn1 hcF ⊢
      rw [HS0.out, HI0.out] at hn1
      have hown1 : Own 31 wL Never (.slice (some ⟨w.heap.size, 0, none⟩) 1 1) [partMail t.data.toList 0 n []] := own_mail1 hn1 (fun h => h) (by show (toB handW).size ≤ _; rw [toB_size']; decide) (by show (toB (subjL 0 n t.data.toList)).size ≤ _; rw [toB_size', subj_len 0 n _ (by omega) hn8, ← Lib.size_eq]; unfold maxLen; omega) (by show (toB (idL 0 n)).size ≤ _; rw [toB_size', id_len 0 n (by omega) hn8]; decide) (rdv_nil _ _)
      have hnn : OwnN 31 w wL (.slice (some ⟨w.heap.size, 0, none⟩) 1 1) (partMail t.data.toList 0 n [] :: packGo t.data.toList n 1 (p.take 0)) := ⟨hown1, fun k hk => by simp only [Value.ownBlock, Option.some.injEq] at hk; subst hk; exact Nat.le_refl _, hcF⟩
      clear hn1 hown1 hwL hcF
      go_loopw [8, 9] (fun ov iv wr => ∃ i : Nat, i ≤ n ∧ iv = .int .i64 i ∧ OwnN 31 w wr ov (partMail t.data.toList 0 n [] :: packGo t.data.toList n 1 (p.take i)) ∧ Hid (firstOf packFault (p.drop i) = firstOf packFault p)) (fun _ iv _ => n - (intOf iv).toNat)
      case atStart => exact ⟨0, Nat.zero_le _, rfl, hnn, rfl⟩
      case round =>
        clear hnn
        obtain ⟨i, hi, rfl, hn, hf⟩ := hrel
        rename World => wr
        obtain ⟨va, vn, vc, rfl⟩ := own_isSlice hn.own
        by_cases hlt : i < n
        · obtain ⟨c, hx⟩ : ∃ c, p[i]? = some c := ⟨_, List.getElem?_eq_getElem (by have := HN.out; omega)⟩
          obtain ⟨b, off, cv, rfl, -, -, d0, hcv⟩ := elems_row h3 hx
          have HPT0 : partMail t.data.toList 0 n [] :: packGo t.data.toList n 1 (p.take (i + 1)) = (partMail t.data.toList 0 n [] :: packGo t.data.toList n 1 (p.take i)) ++ [packOne t.data.toList n (i + 1) c] := by rw [packGo_take hx]; rfl
          have HPT := Lib.hid HPT0
          obtain ⟨st1, st2⟩ := firstOf_from hf.out hx
          have hLl : (partMail t.data.toList 0 n [] :: packGo t.data.toList n 1 (p.take i)).length ≤ 1000000000 := by rw [List.length_cons, packGo_len, List.length_take]; omega
          obtain ⟨L, hL⟩ : ∃ L, (partMail t.data.toList 0 n [] :: packGo t.data.toList n 1 (p.take i)) = L := ⟨_, rfl⟩
          rw [hL] at hn HPT hLl
          have D0 := Lib.hid d0
          have d0 := hn.chg.cellNever D0.out
          have hcw := hcv.never hn.chg
          obtain ⟨ca, cc, rfl, _, _, _⟩ := rdv_slice hcv
          have ilt : (i : Int) < (n : Int) := by omega
          clear hx hf h3 hL HPT0
          go_wp2_with fail
          refine (refPatch_any c _ _ hcw).mono ?_
          rintro e w1 ⟨rfl, hc1⟩
          have hn1 := hn.never hc1
          clear d0 hn
          have d0 := hn1.chg.cellNever D0.out
          generalize (patchFault c).1 = pn
          by_cases hz : (patchFault c).2 = 0
          · have HPF : packFault c = if 40000 < (textG c).length then 3 else 0 := if_neg (by rw [hz]; decide)
            have hPT := refPatchText_any c (.slice ca c.length cc) w1 (hcw.never hc1) hz
            rw [hz]
            go_wp2_with fail
            refine hPT.mono ?_
            rintro e w2 ⟨rfl, hc2⟩
            have hn2 := hn1.never hc2
            clear hPT hn1 hcw d0
            by_cases h4 : 40000 < (textG c).length
            · have HPF := HPF.trans (if_pos h4)
              have HF2 : Hid (packF t.data.toList p = 3) := by rw [Hid, HF.out, st2 (by rw [HPF]; decide), HPF]
              have t4 : decide ((40000 : Int) < ((toB (textG c)).size : Int)) = true := decide_eq_true (by rw [toB_size']; omega)
              generalize toB (textG c) = S at t4 ⊢
              clear HPF h4 hz st1 st2 hcv
              go_wp2_with fail
              go_ret2
              exact packOf_no HF2.out (by decide) rfl hn2.chg
            · have HS2 : Hid (firstOf packFault (p.drop (i + 1)) = firstOf packFault p) := st1 (by rw [HPF, if_neg h4])
              have t4 : decide ((40000 : Int) < ((toB (textG c)).size : Int)) = false := decide_eq_false (by rw [toB_size']; omega)
              have zS : (toB (textG c)).size ≤ 40000 := by rw [toB_size']; omega
              have HST0 : (toB (textG c)).data.toList = textG c := toB_data _
              obtain ⟨S, hS⟩ : ∃ S, toB (textG c) = S := ⟨_, rfl⟩
              rw [hS] at t4 zS HST0 ⊢
              have HST := Lib.hid HST0
              have hSm : S.size ≤ maxLen := by unfold maxLen; omega
              have sN : IntKind.i64.wrap ((i : Int) + 1) = (i : Int) + 1 := IntWalk.i64_in _ (by omega)
              have FK := Lib.hid (FDi.out (i + 1) ((i : Int) + 1) (by omega) (by omega))
              have zs : (toB (subjL (i + 1) n t.data.toList)).size ≤ maxLen := by rw [toB_size', subj_len _ n _ (by omega) hn8, ← Lib.size_eq]; unfold maxLen; omega
              have zi : (toB (idL (i + 1) n)).size ≤ maxLen := by rw [toB_size', id_len _ n (by omega) hn8]; decide
              have zk : (toB (Lib.decDigits (i + 1))).size = 1 := by rw [toB_size', dig_small (i + 1) (by omega)]
              have hsk := HSI.out (i + 1)
              have hik := HII.out (i + 1)
              obtain ⟨K, hK⟩ : ∃ K, toB (Lib.decDigits (i + 1)) = K := ⟨_, rfl⟩
              rw [hK] at FK zk hsk hik
              have HSK := Lib.hid hsk
              have HIK := Lib.hid hik
              clear HPF h4 hz st1 st2 hcv hS HST0 hK hsk hik
              go_wp2_with fail
              refine (FK.out _).mono ?_
              rintro e w3 ⟨rfl, rfl⟩
              rename World => w2
              obtain ⟨ba, bc, w3, hcv3, hc3, hb3⟩ := conv_made (w := w2) (s := S) hSm
              have hn3 := hn2.never hc3
              rw [HST.out] at hb3
              have hy : Dat.rd w3 (fun k => Never k ∨ (Value.slice va vn vc).ownBlock = some k) [.string ⟨#[104, 97, 110, 100, 115, 116, 105, 116, 99, 104]⟩, .string ((⟨#[91, 80, 65, 84, 67, 72, 32]⟩ : ByteArray) ++ K ++ ⟨#[47]⟩ ++ D ++ ⟨#[93, 32]⟩ ++ t), .string (K ++ ⟨#[46]⟩ ++ D), .slice (some ba) S.size bc] (packOne t.data.toList n (i + 1) c) := by
                rw [HSK.out, HIK.out]
                exact ⟨_, rfl, by show (toB handW).size ≤ _; rw [toB_size']; decide, zs, zi, hn2.fresh hb3⟩
              have m1 : ¬ (9223372036854775807 < 7 + K.size) := by omega
              have m2 : ¬ (9223372036854775807 < 7 + K.size + 1) := by omega
              have m3 : ¬ (9223372036854775807 < 7 + K.size + 1 + D.size) := by omega
              have m4 : ¬ (9223372036854775807 < 7 + K.size + 1 + D.size + 2) := by omega
              have m5 : ¬ (9223372036854775807 < 7 + K.size + 1 + D.size + 2 + t.size) := by omega
              have m6 : ¬ (9223372036854775807 < K.size + 1) := by omega
              have m7 : ¬ (9223372036854775807 < K.size + 1 + D.size) := by omega
              clear hn2 hc3 hb3
              go_wp2_with (at_builtin; refine wpList_push (by rfl) _ _ 24 (by rfl) elemOk_mail (O := Never) (l := L) (y := packOne t.data.toList n (i + 1) c) (by rfl) (by rfl) (by rfl) hn3.own hy (fun _ h => h.elim) hLl ?_; intro v' w7 hown7 hc7 hk7; have hn7 := hn3.step1 hown7 hc7 hk7; clear hown7 hc7 hk7 hy; obtain ⟨oa, on, oc, rfl⟩ := own_isSlice hn7.own)
              clear hn3 hcv3 m1 m2 m3 m4 m5 m6 m7 t4
              go_wp2_with fail
              go_roundw
              case rel => exact ⟨i + 1, hlt, by go_num, by rw [HPT.out]; exact hn7, HS2⟩
              case measure => simp [intOf] <;> omega
          · have HPF : packFault c = (patchFault c).2 := if_pos hz
            have HF2 : Hid (packF t.data.toList p = (patchFault c).2) := by rw [Hid, HF.out, st2 (by rw [HPF]; exact hz), HPF]
            have HZ := Lib.hid hz
            generalize (patchFault c).2 = fz at hz HF2 HZ ⊢
            have v1 : (fz == 0) = false := beq_eq_false_iff_ne.2 hz
            have v2 : (fz != 0) = true := by rw [bne, v1]; rfl
            clear HPF hz st1 st2 hcv hcw d0
            go_wp2_with fail
            go_ret2
            exact packOf_no HF2.out HZ.out rfl hn1.chg
        · obtain rfl : n = i := by omega
          have hf' := hf.out
          rw [List.drop_of_length_le (by have := HN.out; omega)] at hf'
          have HF2 : Hid (packF t.data.toList p = 0) := by rw [Hid, HF.out, ← hf']; rfl
          have HR : Hid (packR t.data.toList p = packL t.data.toList p) := if_pos HF2.out
          have hnL : OwnN 31 w wr (.slice va vn vc) (packL t.data.toList p) := by
            have := hn
            rw [List.take_of_length_le (by have := HN.out; omega)] at this
            rw [HPL.out]
            exact this
          clear hf hf' hn
          go_wp2_with fail
          go_ret2
          exact ⟨_, by rw [HF2.out]; rfl, hnL.chg, by rw [HR.out]; exact hnL.own.rdv⟩
end Go.Proofs.YtjiaidchcldocaaGreatDoor
namespace Go.Proofs.YtjiaidchcldocaaGreatDoor

theorem fileFault_lines {f : File} (h : fileFault f = 0) : linesFault f.lines = 0 := by
  unfold fileFault at h
  by_cases e : pathFault f.path = 0
  · rwa [if_pos e] at h
  · rw [if_neg e] at h; exact absurd h e
end Go.Proofs.YtjiaidchcldocaaGreatDoor
namespace Go.Proofs.YtjiaidchcldocaaGreatDoor
open Go.RowKit

def AllFine (a : List File) : Prop := ∀ f ∈ a, fileFault f = 0
theorem AllFine.get {a : List File} (h : AllFine a) {x : File} (hx : a[0]? = some x) : linesFault x.lines = 0 := fileFault_lines (h x (List.mem_of_getElem? hx))
theorem AllFine.drop {a : List File} (h : AllFine a) : AllFine (a.drop 1) := fun f hf => h f (List.mem_of_mem_drop hf)

end Go.Proofs.YtjiaidchcldocaaGreatDoor
namespace Go.Proofs.YtjiaidchcldocaaGreatDoor

end Go.Proofs.YtjiaidchcldocaaGreatDoor
namespace Go.Proofs.YtjiaidchcldocaaGreatDoor

def runGoS : List File → List (List Change) → List File × Int
  | t, [] => (t, 0)
  | t, c :: r => if (applyR t c).2.2 = 0 then runGoS (applyR t c).1 r else ([], (applyR t c).2.2)
end Go.Proofs.YtjiaidchcldocaaGreatDoor
namespace Go.Proofs.YtjiaidchcldocaaGreatDoor
open Go.RowKit

def doneR (there : Bool) (L : List ByteArray) (c : Change) : List ByteArray × Bool × Int :=
  if c.what = 2 ∧ there = true then ([], false, 6)
  else if c.what ≠ 2 ∧ there = false then ([], false, 4)
  else if (strict L c.hunks).2.2 ≠ 0 then ([], false, (strict L c.hunks).2.2)
  else if c.what = 3 ∧ (strict L c.hunks).1 ≠ [] then ([], false, 6)
  else ((strict L c.hunks).1, decide (c.what ≠ 3), 0)
theorem done_step (x : Option (List ByteArray)) (c : Change) : stepOf x c = (if (doneR x.isSome (x.getD []) c).2.1 = true then some (doneR x.isSome (x.getD []) c).1 else none, (doneR x.isSome (x.getD []) c).2.2) := by
  unfold stepOf doneR
  by_cases h1 : c.what = 2 ∧ x.isSome = true
  · rw [if_pos h1, if_pos h1]; rfl
  · rw [if_neg h1, if_neg h1]
    by_cases h2 : c.what ≠ 2 ∧ x.isSome = false
    · rw [if_pos h2, if_pos h2]; rfl
    · rw [if_neg h2, if_neg h2]
      by_cases h3 : (strict (x.getD []) c.hunks).2.2 ≠ 0
      · rw [if_pos h3, if_pos h3]; rfl
      · rw [if_neg h3, if_neg h3]
        by_cases h4 : c.what = 3
        · by_cases h5 : (strict (x.getD []) c.hunks).1 = []
          · simp [h4, h5]
          · simp [h4, h5]
        · simp [h4]
theorem done_clash {there : Bool} {L : List ByteArray} {c : Change} (h : c.what = 2 ∧ there = true) : doneR there L c = ([], false, 6) := if_pos h
theorem done_none {there : Bool} {L : List ByteArray} {c : Change} (h : c.what ≠ 2 ∧ there = false) : doneR there L c = ([], false, 4) := by unfold doneR; rw [if_neg (fun g => h.1 g.1), if_pos h]
theorem done_bad {there : Bool} {L : List ByteArray} {c : Change} (h1 : ¬ (c.what = 2 ∧ there = true)) (h2 : ¬ (c.what ≠ 2 ∧ there = false)) (h : (strict L c.hunks).2.2 ≠ 0) : doneR there L c = ([], false, (strict L c.hunks).2.2) := by unfold doneR; rw [if_neg h1, if_neg h2, if_pos h]
theorem done_left {there : Bool} {L : List ByteArray} {c : Change} (h1 : ¬ (c.what = 2 ∧ there = true)) (h2 : ¬ (c.what ≠ 2 ∧ there = false)) (h : (strict L c.hunks).2.2 = 0) (g : c.what = 3 ∧ (strict L c.hunks).1 ≠ []) : doneR there L c = ([], false, 6) := by unfold doneR; rw [if_neg h1, if_neg h2, if_neg (by rw [h]; decide), if_pos g]
theorem done_good {there : Bool} {L : List ByteArray} {c : Change} (h1 : ¬ (c.what = 2 ∧ there = true)) (h2 : ¬ (c.what ≠ 2 ∧ there = false)) (h : (strict L c.hunks).2.2 = 0) (g : ¬ (c.what = 3 ∧ (strict L c.hunks).1 ≠ [])) : doneR there L c = ((strict L c.hunks).1, decide (c.what ≠ 3), 0) := by unfold doneR; rw [if_neg h1, if_neg h2, if_neg (by rw [h]; decide), if_neg g]
def DonePost (there : Bool) (L : List ByteArray) (c : Change) (w : World) (e : Ending) (w' : World) : Prop := ∃ r, e = .returned (.tuple #[r, .bool (doneR there L c).2.1, errV (doneR there L c).2.2]) ∧ Chg Never w w' ∧ Rdv w' (Old w.heap.size) r (doneR there L c).1
theorem donePost_bad {there : Bool} {L : List ByteArray} {c : Change} {w w' : World} {k : Int} (h : doneR there L c = ([], false, k)) (hc : Chg Never w w') : DonePost there L c w (.returned (.tuple #[.slice none 0 0, .bool false, errV k])) w' :=
  ⟨_, by rw [h], hc, by rw [h]; exact rdv_nil _ _⟩
theorem donePost_ok {there b : Bool} {L R : List ByteArray} {c : Change} {w w' : World} {r : Value} (h : doneR there L c = (R, b, 0)) (hc : Chg Never w w') (hr : Rdv w' (Old w.heap.size) r R) : DonePost there L c w (.returned (.tuple #[r, .bool b, .nilIface])) w' :=
  ⟨_, by rw [h]; rfl, hc, by rw [h]; exact hr⟩
set_option maxHeartbeats 2000000 in
set_option maxRecDepth 100000 in
theorem done_go (there : Bool) (L : List ByteArray) (wh : Int) (pa : ByteArray) (hs : List Hunk) (lv hv : Value) (w : World) (hL : Rdv w Never lv L) (hh : Rdv w Never hv hs) :
    Calls Tryz.prog 77 #[lv, .bool there, .agg #[.int .i64 wh, .string pa, hv]] w fun e w' => DonePost there L ⟨wh, pa, hs⟩ w e w' := by
  obtain ⟨a, cap, rfl, h1, h2, _⟩ := rdv_slice hh
  obtain ⟨la, lcap, rfl, _, _, _⟩ := rdv_slice hL
  by_cases k2 : wh = 2
  · subst k2
    obtain ⟨hA, b0, b1, b2⟩ := box1_change w 85 2 pa (.slice a hs.length cap) _ rfl
    cases there with
    | true =>
      have HG := Lib.hid (donePost_bad (w := w) (done_clash (L := L) (c := ⟨2, pa, hs⟩) ⟨rfl, rfl⟩) hA)
      go_enter Tryz.func77, Tryz.ntmps77
      go_wp2_with fail
      go_ret3
      have E := HG.out
      rw [errV_pos (by decide)] at E
      exact E
    | false =>
      have n1 : ¬ ((⟨2, pa, hs⟩ : Change).what = 2 ∧ false = true) := fun h => by cases h.2
      have n2 : ¬ ((⟨2, pa, hs⟩ : Change).what ≠ 2 ∧ false = false) := fun h => h.1 rfl
      by_cases z : (strict L hs).2.2 = 0
      · have HG : Hid (doneR false L ⟨2, pa, hs⟩ = ((strict L hs).1, true, 0)) := done_good n1 n2 z (fun h => absurd (show (2 : Int) = 3 from h.1) (by decide))
        have ZS := Lib.hid z
        clear z n1 n2
        go_enter Tryz.func77, Tryz.ntmps77
        go_wp2_with fail
        generalize w.alloc (.cells #[.int .i64 2, .string pa, .slice a hs.length cap] 85) = wA at hA b0 b1 b2 ⊢
        refine (strict_any L hs _ _ _ (hL.never hA) (hh.never hA)).mono ?_
        rintro e w2 ⟨r, rfl, hc2, hr⟩
        have hw := hA.trans hc2
        have b0 := hc2.cellNever b0
        have hr := hr.sub (O' := Old w.heap.size) (fun k _ h => Nat.lt_of_lt_of_le h hA.size)
        clear hc2 b1 b2
        skip
        obtain ⟨ra, rc, rfl, _, _, _⟩ := rdv_slice hr
        rw [ZS.out, errV_zero]
        go_wp2_with fail
        go_quiet (fail)
        go_wp2_with fail
        go_ret3
        exact donePost_ok HG.out (hw.drewN _) (hr.never ((Chg.refl Never _).drewN _))
      · have HG := Lib.hid (done_bad n1 n2 z)
        have ZS := Lib.hid z
        clear z n1 n2
        go_enter Tryz.func77, Tryz.ntmps77
        go_wp2_with fail
        generalize w.alloc (.cells #[.int .i64 2, .string pa, .slice a hs.length cap] 85) = wA at hA b0 b1 b2 ⊢
        refine (strict_any L hs _ _ _ (hL.never hA) (hh.never hA)).mono ?_
        rintro e w2 ⟨r, rfl, hc2, hr⟩
        have hw := hA.trans hc2
        have b0 := hc2.cellNever b0
        have hr := hr.sub (O' := Old w.heap.size) (fun k _ h => Nat.lt_of_lt_of_le h hA.size)
        clear hc2 b1 b2
        skip
        obtain ⟨ra, rc, rfl, _, _, _⟩ := rdv_slice hr
        rw [errV_pos ZS.out]
        clear b0
        go_wp2_with fail
        go_ret3
        have E := donePost_bad HG.out hw
        rw [errV_pos ZS.out] at E
        exact E
  · have t2 : (wh == 2) = false := by simp [k2]
    have t2' : (wh != 2) = true := by simp [k2]
    obtain ⟨hA, b0, b1, b2⟩ := box1_change w 85 wh pa (.slice a hs.length cap) _ rfl
    cases there with
    | false =>
      have HG := Lib.hid (donePost_bad (w := w) (done_none (L := L) (c := ⟨wh, pa, hs⟩) ⟨k2, rfl⟩) hA)
      clear k2
      go_enter Tryz.func77, Tryz.ntmps77
      go_wp2_with fail
      go_ret3
      have E := HG.out
      rw [errV_pos (by decide)] at E
      exact E
    | true =>
      have n1 : ¬ ((⟨wh, pa, hs⟩ : Change).what = 2 ∧ true = true) := fun h => k2 h.1
      have n2 : ¬ ((⟨wh, pa, hs⟩ : Change).what ≠ 2 ∧ true = false) := fun h => by cases h.2
      by_cases z : (strict L hs).2.2 = 0
      · have ZS := Lib.hid z
        by_cases k3 : wh = 3
        · subst k3
          by_cases h0 : (strict L hs).1 = []
          · have HG : Hid (doneR true L ⟨3, pa, hs⟩ = ([], false, 0)) := (done_good n1 n2 z (fun h => h.2 h0)).trans (by rw [show (strict L (⟨3, pa, hs⟩ : Change).hunks).1 = [] from h0]; rfl)
            have H0 := Lib.hid h0
            clear z n1 n2 k2 h0 t2 t2'
            go_enter Tryz.func77, Tryz.ntmps77
            go_wp2_with fail
            generalize w.alloc (.cells #[.int .i64 3, .string pa, .slice a hs.length cap] 85) = wA at hA b0 b1 b2 ⊢
            refine (strict_any L hs _ _ _ (hL.never hA) (hh.never hA)).mono ?_
            rintro e w2 ⟨r, rfl, hc2, hr⟩
            have hw := hA.trans hc2
            have b0 := hc2.cellNever b0
            have hr := hr.sub (O' := Old w.heap.size) (fun k _ h => Nat.lt_of_lt_of_le h hA.size)
            clear hc2 b1 b2
            rw [H0.out] at hr
            obtain ⟨ra, rc, rfl, _, _, _⟩ := rdv_slice hr
            rw [ZS.out, errV_zero]
            go_wp2_with fail
            go_quiet (fail)
            go_wp2_with fail
            go_ret3
            exact donePost_ok HG.out (hw.drewN _) (hr.never ((Chg.refl Never _).drewN _))
          · have HG := Lib.hid (done_left n1 n2 z ⟨rfl, h0⟩)
            have hpos : 0 < (strict L hs).1.length := List.length_pos_iff.2 h0
            clear z n1 n2 k2 h0 t2 t2'
            go_enter Tryz.func77, Tryz.ntmps77
            go_wp2_with fail
            generalize w.alloc (.cells #[.int .i64 3, .string pa, .slice a hs.length cap] 85) = wA at hA b0 b1 b2 ⊢
            refine (strict_any L hs _ _ _ (hL.never hA) (hh.never hA)).mono ?_
            rintro e w2 ⟨r, rfl, hc2, hr⟩
            have hw := hA.trans hc2
            have b0 := hc2.cellNever b0
            have hr := hr.sub (O' := Old w.heap.size) (fun k _ h => Nat.lt_of_lt_of_le h hA.size)
            clear hc2 b1 b2
            skip
            obtain ⟨ra, rc, rfl, _, _, _⟩ := rdv_slice hr
            rw [ZS.out, errV_zero]
            go_wp2_with fail
            all_goals first | (go_ret3; have E := donePost_bad HG.out hw; rw [errV_pos (by decide)] at E; exact E) | skip
        · have t3 : (wh == 3) = false := by simp [k3]
          have HG : Hid (doneR true L ⟨wh, pa, hs⟩ = ((strict L hs).1, wh != 3, 0)) := (done_good n1 n2 z (fun h => k3 h.1)).trans (by rw [show decide ((⟨wh, pa, hs⟩ : Change).what ≠ 3) = true from decide_eq_true k3, show (wh != 3) = true by simp [k3]])
          clear z n1 n2 k2 k3
          go_enter Tryz.func77, Tryz.ntmps77
          go_wp2_with fail
          generalize w.alloc (.cells #[.int .i64 wh, .string pa, .slice a hs.length cap] 85) = wA at hA b0 b1 b2 ⊢
          refine (strict_any L hs _ _ _ (hL.never hA) (hh.never hA)).mono ?_
          rintro e w2 ⟨r, rfl, hc2, hr⟩
          have hw := hA.trans hc2
          have b0 := hc2.cellNever b0
          have hr := hr.sub (O' := Old w.heap.size) (fun k _ h => Nat.lt_of_lt_of_le h hA.size)
          clear hc2 b1 b2
          skip
          obtain ⟨ra, rc, rfl, _, _, _⟩ := rdv_slice hr
          rw [ZS.out, errV_zero]
          go_wp2_with fail
          go_quiet (fail)
          go_wp2_with fail
          go_ret3
          exact donePost_ok HG.out (hw.drewN _) (hr.never ((Chg.refl Never _).drewN _))
      · clear k2
        have HG := Lib.hid (done_bad n1 n2 z)
        have ZS := Lib.hid z
        clear z n1 n2
        go_enter Tryz.func77, Tryz.ntmps77
        go_wp2_with fail
        generalize w.alloc (.cells #[.int .i64 wh, .string pa, .slice a hs.length cap] 85) = wA at hA b0 b1 b2 ⊢
        refine (strict_any L hs _ _ _ (hL.never hA) (hh.never hA)).mono ?_
        rintro e w2 ⟨r, rfl, hc2, hr⟩
        have hw := hA.trans hc2
        have b0 := hc2.cellNever b0
        have hr := hr.sub (O' := Old w.heap.size) (fun k _ h => Nat.lt_of_lt_of_le h hA.size)
        clear hc2 b1 b2
        skip
        obtain ⟨ra, rc, rfl, _, _, _⟩ := rdv_slice hr
        rw [errV_pos ZS.out]
        clear b0
        go_wp2_with fail
        go_ret3
        have E := donePost_bad HG.out hw
        rw [errV_pos ZS.out] at E
        exact E
theorem done_any (there : Bool) (L : List ByteArray) (c : Change) (lv hv : Value) (w : World) (hL : Rdv w Never lv L) (hh : Rdv w Never hv c.hunks) :
    Calls Tryz.prog 77 #[lv, .bool there, .agg #[.int .i64 c.what, .string c.path, hv]] w fun e w' => DonePost there L c w e w' := done_go there L c.what c.path c.hunks lv hv w hL hh
end Go.Proofs.YtjiaidchcldocaaGreatDoor
namespace Go.Proofs.YtjiaidchcldocaaGreatDoor
open Go.RowKit

set_option maxRecDepth 100000 in
theorem find_cmp (x : File) (p : ByteArray) (lv : Value) (w : World) :
    Calls Tryz.prog 124 #[.agg #[.string x.path, lv], .string p] w fun e w' => e = .returned (.int .i64 (Lib.compareBytes x.path.data.toList p.data.toList)) ∧ Chg Never w w' := by
  go_enter Tryz.func124, Tryz.ntmps124
  go_wp2_with fail
  refine (Tryz.strings_Compare x.path p _).mono ?_
  rintro e w1 ⟨rfl, hw1⟩
  rw [hw1]
  go_wp2_with fail
  go_ret
  exact ⟨rfl, (Chg.refl _ _).alloc _⟩
theorem cmp_less {a b : ByteArray} : (Lib.compareBytes a.data.toList b.data.toList < 0 ↔ less a b = true) ∧ (Lib.compareBytes a.data.toList b.data.toList = 0 ↔ a = b) := by
  obtain ⟨h1, h2⟩ := compare_bl a.data.toList b.data.toList
  refine ⟨?_, ?_⟩
  · rw [h1]; unfold less; rw [Lib.toList_data, Lib.toList_data]
  · rw [h2]
    exact ⟨fun h => ByteArray.ext (Array.toList_inj.1 h), fun h => by rw [h]⟩

structure BSt (t : List File) (p : ByteArray) (a b : Nat) : Prop where
  le : a ≤ b
  top : b ≤ t.length
  lo : ∀ q f, q < a → t[q]? = some f → less f.path p = true
  hi : ∀ q f, b ≤ q → t[q]? = some f → less f.path p = false
theorem bst_start (t : List File) (p : ByteArray) : BSt t p 0 t.length :=
  ⟨Nat.zero_le _, Nat.le_refl _, fun q f h => absurd h (Nat.not_lt_zero q), fun q f h hf => by have := (List.getElem?_eq_some_iff.1 hf).1; omega⟩
theorem BSt.up {t : List File} {p : ByteArray} {a b c : Nat} {x : File} (h : BSt t p a b) (hs : Sorted t) (h1 : a ≤ c) (h2 : c < b) (hx : t[c]? = some x) (hl : less x.path p = true) : BSt t p (c + 1) b :=
  ⟨by omega, h.top, fun q f hq hf => by
    by_cases e : q = c
    · subst e; rw [hx] at hf; injection hf with hf; rw [← hf]; exact hl
    · exact less_trans (sorted_mono hs (show q < c by omega) hf hx) hl, h.hi⟩
theorem BSt.down {t : List File} {p : ByteArray} {a b c : Nat} {x : File} (h : BSt t p a b) (hs : Sorted t) (h1 : a ≤ c) (h2 : c < b) (hx : t[c]? = some x) (hl : less x.path p = false) : BSt t p a c :=
  ⟨h1, by have := h.top; omega, h.lo, fun q f hq hf => by
    by_cases e : q = c
    · subst e; rw [hx] at hf; injection hf with hf; rw [← hf]; exact hl
    · have hm := sorted_mono hs (show c < q by omega) hx hf
      cases hb : less f.path p with
      | false => rfl
      | true => have := less_trans hm hb; rw [hl] at this; cases this⟩
theorem BSt.pos {t : List File} {p : ByteArray} {a : Nat} (h : BSt t p a a) : posOf t p = a := pos_unique h.lo (fun f hf => h.hi a f (Nat.le_refl _) hf) h.top

set_option maxHeartbeats 2000000 in
set_option maxRecDepth 100000 in
theorem bs_any (t : List File) (p : ByteArray) (v : Value) (w : World) (h : Rdv w Never v t) (hs : Sorted t) (hl : t.length ≤ 1000000) :
    Calls Tryz.prog 123 #[v, .string p, .func (.func 124) #[] #[]] w fun e w' => e = .returned (.tuple #[.int .i64 (posOf t p), .bool (isAt t p)]) ∧ Chg Never w w' := by
  have HS := Lib.hid hs
  clear hs
  obtain ⟨a, cap, rfl, h1, h2, h3⟩ := rdv_slice h
  unfold maxLen at h2
  go_enter Tryz.func123, Tryz.ntmps123
  go_wp2_with fail
  go_loopw [9, 10] (fun i j wr => ∃ x y : Nat, i = .int .i64 x ∧ j = .int .i64 y ∧ Chg Never w wr ∧ BSt t p x y) (fun i j _ => (intOf j).toNat - (intOf i).toNat)
  case atStart => exact ⟨0, t.length, rfl, rfl, Chg.refl _ _, bst_start t p⟩
  case round =>
    obtain ⟨x, y, rfl, rfl, hc, hB⟩ := hrel
    have hle := hB.le
    have htop := hB.top
    by_cases hlt : x < y
    · obtain ⟨z, hz⟩ : ∃ z, (x + y) / 2 = z := ⟨_, rfl⟩
      have zI : ((x : Int) + y) / 2 = z := by omega
      have hz1 : x ≤ z := by omega
      have hz2 : z < y := by omega
      obtain ⟨f, hf⟩ : ∃ f, t[z]? = some f := ⟨t[z]'(by omega), by simp [show z < t.length by omega]⟩
      obtain ⟨b, off, lv, rfl, _, _, c0, c1, _, _⟩ := elems_file h3 hf
      have c0 := hc.cellNever c0
      have c1 := hc.cellNever c1
      have HX := Lib.hid hf
      clear hf
      cases hq : less f.path p with
      | true =>
        have t1 : decide (Lib.compareBytes f.path.data.toList p.data.toList < 0) = true := decide_eq_true (cmp_less.1.2 hq)
        go_wp2_with fail
        refine (find_cmp f p _ _).mono ?_
        rintro e w2 ⟨rfl, hc2⟩
        have hc2 := hc.trans hc2
        clear c0 c1
        go_wp2_with fail
        go_roundw
        case rel => exact ⟨z + 1, y, by go_num, rfl, hc2, hB.up HS.out hz1 hz2 HX.out hq⟩
        case measure => simp [intOf] <;> omega
      | false =>
        have t1 : decide (Lib.compareBytes f.path.data.toList p.data.toList < 0) = false := decide_eq_false (fun hh => by rw [cmp_less.1.1 hh] at hq; cases hq)
        go_wp2_with fail
        refine (find_cmp f p _ _).mono ?_
        rintro e w2 ⟨rfl, hc2⟩
        have hc2 := hc.trans hc2
        clear c0 c1
        go_wp2_with fail
        go_roundw
        case rel => exact ⟨x, z, rfl, rfl, hc2, hB.down HS.out hz1 hz2 HX.out hq⟩
        case measure => simp [intOf] <;> omega
    · obtain rfl : x = y := by omega
      have HP := Lib.hid hB.pos
      by_cases hxt : x < t.length
      · obtain ⟨f, hf⟩ : ∃ f, t[x]? = some f := ⟨t[x], by simp [hxt]⟩
        obtain ⟨b, off, lv, rfl, _, _, c0, c1, _, _⟩ := elems_file h3 hf
        have c0 := hc.cellNever c0
        have c1 := hc.cellNever c1
        by_cases e : f.path = p
        · have HI : Hid (isAt t p = true) := by unfold Hid isAt; rw [HP.out, hf]; simp [e]
          have t1 : (Lib.compareBytes f.path.data.toList p.data.toList == 0) = true := beq_iff_eq.2 (cmp_less.2.2 e)
          clear hf e
          go_wp2_with fail
          refine (find_cmp f p _ _).mono ?_
          rintro e w2 ⟨rfl, hc2⟩
          have hc2 := hc.trans hc2
          clear c0 c1
          go_wp2_with fail
          go_ret2
          exact ⟨by rw [HP.out, HI.out]; rfl, hc2⟩
        · have HI : Hid (isAt t p = false) := by unfold Hid isAt; rw [HP.out, hf]; simp [e]
          have t1 : (Lib.compareBytes f.path.data.toList p.data.toList == 0) = false := beq_eq_false_iff_ne.2 (fun hh => e (cmp_less.2.1 hh))
          clear hf e
          go_wp2_with fail
          refine (find_cmp f p _ _).mono ?_
          rintro e w2 ⟨rfl, hc2⟩
          have hc2 := hc.trans hc2
          clear c0 c1
          go_wp2_with fail
          go_ret2
          exact ⟨by rw [HP.out, HI.out]; rfl, hc2⟩
      · have HI : Hid (isAt t p = false) := by unfold Hid isAt; rw [HP.out, List.getElem?_eq_none (by omega)]; rfl
        go_wp2_with fail
        go_ret2
        exact ⟨by rw [HP.out, HI.out]; rfl, hc⟩

set_option maxHeartbeats 2000000 in
set_option maxRecDepth 100000 in
theorem treefind_any (t : List File) (p : ByteArray) (v : Value) (w : World) (h : Rdv w Never v t) (hs : Sorted t) (hl : t.length ≤ 1000000) :
    Calls Tryz.prog 76 #[v, .string p] w fun e w' => e = .returned (.tuple #[.int .i64 (posOf t p), .bool (isAt t p)]) ∧ Chg Never w w' := by
  obtain ⟨a, cap, rfl, h1, h2, h3⟩ := rdv_slice h
  unfold maxLen at h2
  go_enter Tryz.func76, Tryz.ntmps76
  go_wp2_with fail
  refine (bs_any t p _ _ h hs hl).mono ?_
  rintro e w1 ⟨rfl, hc⟩
  go_wp2_with fail
  go_ret2
  exact ⟨rfl, hc⟩
end Go.Proofs.YtjiaidchcldocaaGreatDoor
namespace Go.Proofs.YtjiaidchcldocaaGreatDoor
open Go.RowKit

theorem take_snoc {α : Type} {l : List α} {k : Nat} {x : α} (hx : l[k]? = some x) : l.take (k + 1) = l.take k ++ [x] := by rw [List.take_add_one, hx]; rfl
set_option maxHeartbeats 2000000 in
set_option maxRecDepth 100000 in
theorem tree_copy_any (t : List File) (v : Value) (w : World) (h : Rdv w Never v t) (hl : t.length ≤ 1000000) (hll : ∀ f ∈ t, f.lines.length ≤ 1000000) :
    Calls Tryz.prog 63 #[v] w fun e w' => ∃ r, e = .returned r ∧ Chg Never w w' ∧ Own 117 w' (Old w.heap.size) r t := by
  obtain ⟨a, cap, rfl, h1, h2, h3⟩ := rdv_slice h
  unfold maxLen at h2
  go_enter Tryz.func63, Tryz.ntmps63
  go_wp2_with fail
  go_loopw [3, 8] (fun o i wr => ∃ k : Nat, k ≤ t.length ∧ i = .int .i64 k ∧ Chg Never w wr ∧ Own 117 wr (Old w.heap.size) o (t.take k)) (fun _ i _ => t.length - (intOf i).toNat)
  case atStart => exact ⟨0, Nat.zero_le _, rfl, Chg.refl _ _, own_nil _ _ _⟩
  case round =>
    obtain ⟨k, hk, rfl, hc, hown⟩ := hrel
    by_cases hlt : k < t.length
    · obtain ⟨x, hx⟩ : ∃ x, t[k]? = some x := ⟨t[k], by simp [hlt]⟩
      obtain ⟨b, off, lv, rfl, _, _, c0, c1, hps, hlv⟩ := elems_file h3 hx
      obtain ⟨la, lcap, rfl, _, _, _⟩ := rdv_slice hlv
      have hxl := hll x (List.mem_of_getElem? hx)
      have c0 := hc.cellNever c0
      have c1 := hc.cellNever c1
      have HT := Lib.hid (take_snoc hx)
      have htl : (t.take k).length ≤ 1000000000 := Nat.le_trans (List.length_take_le _ _) (by omega)
      have hsz := hc.size
      have holt := own_block_lt hown
      have hA : Chg Never wr (wr.alloc (.cells #[.string x.path, .slice la x.lines.length lcap] 117)) := (Chg.refl Never wr).alloc _
      have hBX := Blk2.new wr 117 (.string x.path) (.slice la x.lines.length lcap)
      have hownA := hown.keep (O'' := fun j => Old w.heap.size j ∨ j = wr.heap.size) hA (fun _ _ hh => hh.elim) (by rintro j hj (hh | rfl); exact hh; exact absurd hj (Nat.lt_irrefl _))
      have hlvA := (hlv.never hc).never hA
      have hcA := hc.trans hA
      have hBlt := hBX.lt
      obtain ⟨b0, b1⟩ := hBX.cell
      clear hx h3 h hown hlv
      go_wp2_with fail
      generalize wr.alloc (.cells #[.string x.path, .slice la x.lines.length lcap] 117) = w3 at hBX hownA hlvA hcA hBlt b0 b1 hA ⊢
      generalize hBe : wr.heap.size = B at hBX hownA hBlt b0 b1 hsz holt ⊢
      clear hc hA hBe
      refine (clone_str Never x.lines _ _ hlvA hxl).mono ?_
      rintro e w4 ⟨r4, rfl, hc4, hown4⟩
      obtain ⟨ra, rn, rc, rfl⟩ := own_isSlice hown4
      have hB4 := hBX.keep hc4 (fun h => h)
      have b3 := hB4.free
      have hB5 := hB4.set1 (.slice ra rn rc)
      obtain ⟨b0, b1⟩ := hB4.cell
      obtain ⟨k0, k1⟩ := hB5.cell
      have hS : Chg (fun j => j = B) w4 (w4.setCell ⟨B, 1, none⟩ (.slice ra rn rc)) := (Chg.refl (fun j => j = B) w4).setCell (p := ⟨B, 1, none⟩) (.inr rfl) _
      have hown5 := (hownA.never hc4).keep (O'' := Old w.heap.size) hS (fun j _ hh => .inr hh) (fun j _ hh => .inl hh)
      have hr := (hown4.keep (O'' := Old w3.heap.size) hS (fun j _ hh => by subst hh; exact hBlt) (fun _ _ hh => hh)).rdv
      have hc5 := (hcA.trans hc4).setCell (p := ⟨B, 1, none⟩) (.inl hsz) (.slice ra rn rc)
      have hszw := hcA.size
      have hy : Dat.rd (w4.setCell ⟨B, 1, none⟩ (.slice ra rn rc)) (fun j => Old w.heap.size j ∨ u3.ownBlock = some j) [.string x.path, .slice ra rn rc] x := ⟨_, rfl, hps, hr.sub (fun j _ hh => by
        rcases hh with hh | hh
        · exact Nat.lt_of_lt_of_le hh hszw
        · exact Nat.lt_trans (holt j hh) hBlt)⟩
      clear hr hS hB4 hBX hown4 hc4 hownA hcA hlvA hB5
      go_wp2_with (at_builtin; refine wpList_push (by rfl) _ _ 41 (by rfl) elemOk_file (O := Old w.heap.size) (l := t.take k) (y := x) (by rfl) (by rfl) (by simp) hown5 hy (old_lt hc5) htl ?_; intro v' w6 hown6 hc6 _)
      have hc7 := own_step hc5 hown5 hc6
      clear hc6 hown5 hy
      go_wp2_with fail
      go_roundw
      case rel => exact ⟨k + 1, by omega, by go_num, hc7, by rw [HT.out]; exact hown6⟩
      case measure => simp [intOf] <;> omega
    · rw [List.take_of_length_le (by omega)] at hown
      go_wp2_with fail
      go_ret
      exact ⟨_, rfl, hc, hown⟩
end Go.Proofs.YtjiaidchcldocaaGreatDoor
