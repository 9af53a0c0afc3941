/-
  PARTS: THE WALK of series.Pack.
-/
import Derived.Test.YtjiaidchcldocaaGreatDoorPg1
import Derived.Test.YtjiaidchcldocaaGreatDoorPg7
import Derived.Test.YtjiaidchcldocaaGreatDoorPg23
import Derived.Test.YtjiaidchcldocaaGreatDoorPg34
import Derived.Test.YtjiaidchcldocaaGreatDoorPg18
import Derived.Test.YtjiaidchcldocaaGreatDoorPg9
import Derived.Test.YtjiaidchcldocaaGreatDoorPg22
import Derived.Deep.RegionHeld3
set_option linter.unusedVariables false
set_option linter.unusedSimpArgs false
namespace Go.Proofs.YtjiaidchcldocaaGreatDoor
open Go.RowKit

theorem conv_made {w : World} {s : ByteArray} (hs : s.size ≤ maxLen) : ∃ (a : Addr) (c : Nat) (w' : World),
    (convert 9 29 (.string s)).run Tryz.prog w = .ok (.slice (some a) s.size c) w' ∧ Chg Never w w' ∧ Rdv w' (Old w.heap.size) (.slice (some a) s.size c) s.data.toList := by
  obtain ⟨c, o, h1, h2⟩ := conv_bytes (w := w) hs
  exact ⟨_, c, _, h1, (Chg.refl Never w).drew.alloc o, h2⟩
theorem own_mail1 {w : World} {O : Nat → Prop} {g : Nat} {m : Mail} {v : Value} (h : w.heap[g]? = some (.cells #[.string m.sender, .string m.subject, .string m.ident, v] 31 (0, 0))) (hO : ¬ O g)
    (z1 : m.sender.size ≤ maxLen) (z2 : m.subject.size ≤ maxLen) (z3 : m.ident.size ≤ maxLen) (hv : Rdv w (fun k => O k ∨ some g = some k) v m.body) : Own 31 w O (.slice (some ⟨g, 0, none⟩) 1 1) [m] := by
  refine ⟨[.string m.sender, .string m.subject, .string m.ident, v], ⟨rfl, .inr ⟨g, 1, #[.string m.sender, .string m.subject, .string m.ident, v], rfl, Nat.zero_le _, h, Nat.le_refl _, by unfold maxLen; omega, rfl, rfl⟩⟩, ?_, ?_⟩
  · intro k hk
    simp only [Value.ownBlock, Option.some.injEq] at hk
    subst hk
    exact hO
  · intro i x hi
    match i, hi with
    | 0, hi =>
      simp only [List.getElem?_cons_zero, Option.some.injEq] at hi
      subst hi
      exact ⟨v, rfl, z1, z2, z3, hv⟩
theorem pkeep {O O' : Nat → Prop} {w2 wr wq : World} {B : Nat} {a b c d : Value} (h : Chg O w2 wr ∧ wr.cell? ⟨B, 0, none⟩ = some a ∧ wr.cell? ⟨B, 1, none⟩ = some b ∧ wr.cell? ⟨B, 2, none⟩ = some c ∧ wr.cell? ⟨B, 3, none⟩ = some d) (k : Chg O' wr wq) (hO : ∀ x, O' x → O x) (hB : ¬ O B) :
    Chg O w2 wq ∧ wq.cell? ⟨B, 0, none⟩ = some a ∧ wq.cell? ⟨B, 1, none⟩ = some b ∧ wq.cell? ⟨B, 2, none⟩ = some c ∧ wq.cell? ⟨B, 3, none⟩ = some d := by
  have k := k.mono (fun x _ => hO x)
  exact ⟨h.1.trans k, k.cell h.2.1 hB, k.cell h.2.2.1 hB, k.cell h.2.2.2.1 hB, k.cell h.2.2.2.2 hB⟩
theorem subj_len (a b : Nat) (t : List UInt8) (ha : a ≤ 8) (hb : b ≤ 8) : (subjL a b t).length = 12 + t.length := by
  unfold subjL patW
  simp only [List.length_append, List.length_cons, List.length_nil, dig_small a ha, dig_small b hb]
  omega
theorem id_len (a b : Nat) (ha : a ≤ 8) (hb : b ≤ 8) : (idL a b).length = 3 := by
  unfold idL
  simp only [List.length_append, List.length_cons, List.length_nil, dig_small a ha, dig_small b hb]
set_option maxHeartbeats 4000000 in
set_option maxRecDepth 100000 in
theorem pack_any (t : ByteArray) (p : List (List Change)) (v : Value) (w : World) (h : Rdv w Never v p) (ht : t.size ≤ 1000000000) (m : Int) (hm : w.cell? ⟨1, 0, none⟩ = some (.int .i64 m)) :
    Calls Tryz.prog 11 #[.string t, v] w fun e w' => ∃ r, e = .returned (.tuple #[r, errV (packF t.data.toList p)]) ∧ Chg Never w w' ∧ Rdv w' Never r (packR t.data.toList p) := by
  obtain ⟨a, cap, rfl, h1, h2, h3⟩ := rdv_slice h
  unfold maxLen at h2
  have htm : t.size ≤ maxLen := by unfold maxLen; omega
  by_cases h8 : 8 < p.length
  · have HF : Hid (packF t.data.toList p = 3) := if_pos h8
    have HR : Hid (packR t.data.toList p = []) := if_neg (by rw [HF.out]; decide)
    have t1 : decide ((8 : Int) < (p.length : Int)) = true := decide_eq_true (by omega)
    clear h h3
    go_enter Tryz.func11, Tryz.ntmps11
    go_wp2_with fail
    go_ret2
    exact ⟨_, by rw [HF.out]; rfl, Chg.refl _ _, by rw [HR.out]; exact rdv_nil _ _⟩
  · have t1 : decide ((8 : Int) < (p.length : Int)) = false := decide_eq_false (by omega)
    cases htt : titledB t.data.toList with
    | false =>
      have HF : Hid (packF t.data.toList p = 5) := (if_neg h8).trans (if_pos htt)
      have HR : Hid (packR t.data.toList p = []) := if_neg (by rw [HF.out]; decide)
      have HT := Lib.hid htt
      clear h h3 htt
      go_enter Tryz.func11, Tryz.ntmps11
      go_wp2_with fail
      refine (titled_any t _ htm).mono ?_
      rintro e w1 ⟨rfl, rfl⟩
      rename World => w
      rw [HT.out]
      go_wp2_with fail
      go_ret2
      exact ⟨_, by rw [HF.out]; rfl, Chg.refl _ _, by rw [HR.out]; exact rdv_nil _ _⟩
    | true =>
      have hF0 : packF t.data.toList p = firstOf packFault p := (if_neg h8).trans (if_neg (by rw [htt]; decide))
      have HF := Lib.hid hF0
      have HT := Lib.hid htt
      have htl := (titled_ok htt).2.1
      rw [← Lib.size_eq] at htl
      obtain ⟨n, hN⟩ : ∃ n, p.length = n := ⟨_, rfl⟩
      have HN := Lib.hid hN
      have hn8 : n ≤ 8 := by omega
      have HPL : Hid (packL t.data.toList p = partMail t.data.toList 0 n [] :: packGo t.data.toList n 1 p) := by unfold Hid packL; rw [hN]
      have FS : ∀ (i : Nat) (k : Int), k = i → i ≤ 8 → ∀ wx, Calls Tryz.prog 44 #[.agg #[.string t, .int .i64 k, .int .i64 n, .slice none 0 0]] wx fun e w' => e = .returned (.string (toB (subjL i n t.data.toList))) ∧ Chg Never wx w' := by
        rintro i k rfl hi wx
        exact subject_any t i n _ wx hi hn8 ht rfl
      have FI : ∀ (i : Nat) (k : Int), k = i → i ≤ 8 → ∀ wx, Calls Tryz.prog 45 #[.agg #[.string t, .int .i64 k, .int .i64 n, .slice none 0 0]] wx fun e w' => e = .returned (.string (toB (idL i n))) ∧ Chg Never wx w' := by
        rintro i k rfl hi wx
        exact partid_any t i n _ wx hi hn8
      have FS := Lib.hid FS
      have FI := Lib.hid FI
      have FS0 := Lib.hid (FS.out 0 0 rfl (by omega))
      have FI0 := Lib.hid (FI.out 0 0 rfl (by omega))
      rw [hN] at h1 t1 ⊢
      clear h htt h8 hF0 hN
      obtain ⟨hA, c0, c1, c2, c3⟩ := box1_part w 97 t 0 n (.slice none 0 0) _ rfl
      go_enter Tryz.func11, Tryz.ntmps11
      go_wp2_with fail
      refine (titled_any t _ htm).mono ?_
      rintro e w1 ⟨rfl, rfl⟩
      rename World => w
      rw [HT.out]
      go_wp2_with fail
      obtain ⟨wA, hwA⟩ : ∃ wA, w.alloc (.cells #[.string t, .int .i64 0, .int .i64 n, .slice none 0 0] 97) = wA := ⟨_, rfl⟩
      obtain ⟨B, hB⟩ : ∃ B, w.heap.size = B := ⟨_, rfl⟩
      rw [hwA] at hA c0 c1 c2 c3 ⊢
      rw [hB] at c0 c1 c2 c3 ⊢
      have hBw := Lib.hid hB
      clear hwA hB
      have hBO : ¬ Never B := fun h => h
      refine wp_region_held_drew (S := fun w' => Chg Never wA w' ∧ w'.cell? ⟨B, 0, none⟩ = some (.string t) ∧ w'.cell? ⟨B, 1, none⟩ = some (.int .i64 0) ∧ w'.cell? ⟨B, 2, none⟩ = some (.int .i64 n) ∧ w'.cell? ⟨B, 3, none⟩ = some (.slice none 0 0)) (by kernel_rfl) ⟨(Chg.refl Never wA).drew, c0, c1, c2, c3⟩ (fun hH => ?_)
      refine' tk 0 ?_
      refine' tk 2 ?_
      refine wpAnyH_ready (rs := [1]) (by kernel_rfl) (by simp) ?_
      refine AllReadyH.cons rfl (fun K hK => ?_) AllReadyH.nil
      go_simp
      go_at_call 44
      refine (FS0.out _).mono ?_
      rintro e wq ⟨rfl, hcq⟩
      try go_wp2_with fail
      refine hK.out _ _ (pkeep hH hcq (fun _ h => h.elim) hBO) (fun hH => ?_)
      clear hK K
      try simp only [Act.put, List.setIfInBounds_toArray, List.set_cons_zero, List.set_cons_succ]
      refine wpAnyH_ready (rs := [3]) (by kernel_rfl) (by simp) ?_
      refine AllReadyH.cons rfl (fun K hK => ?_) AllReadyH.nil
      go_simp
      go_at_call 45
      refine (FI0.out _).mono ?_
      rintro e wq ⟨rfl, hcq⟩
      try go_wp2_with fail
      refine hK.out _ _ (pkeep hH hcq (fun _ h => h.elim) hBO) (fun hH => ?_)
      clear hK K
      try simp only [Act.put, List.setIfInBounds_toArray, List.set_cons_zero, List.set_cons_succ]
      refine' tk 4 ?_
      refine wpAnyH_ready (rs := [5]) (by kernel_rfl) (by simp) ?_
      refine AllReadyH.cons rfl (fun K hK => ?_) AllReadyH.nil
      go_simp
      have hn1 := heap_alloc_new wq (.cells #[.string ⟨#[104, 97, 110, 100, 115, 116, 105, 116, 99, 104]⟩, .string (toB (subjL 0 n t.data.toList)), .string (toB (idL 0 n)), .slice none 0 0] 31)
      refine hK.out _ _ (pkeep (by assumption) ((Chg.refl Never _).alloc _) (fun _ h => h.elim) hBO) (fun hH => ?_)
      clear hK K
      try simp only [Act.put, List.setIfInBounds_toArray, List.set_cons_zero, List.set_cons_succ]
      refine' tk 6 ?_
      refine wpAnyH_done (by kernel_rfl) ?_ _
      have hF : Chg Never wA (wq.alloc (.cells #[.string ⟨#[104, 97, 110, 100, 115, 116, 105, 116, 99, 104]⟩, .string (toB (subjL 0 n t.data.toList)), .string (toB (idL 0 n)), .slice none 0 0] 31)) := And.left (by assumption)
      have hcF := hA.trans hF
      have hle : w.heap.size ≤ wq.heap.size := by
        have := hF.size
        have h2 := hA.size
        have h3 := hcq.size
        have h4 := (And.left (by assumption) : Chg Never wA wq).size
        omega
      have hown1 : Own 31 _ Never (.slice (some ⟨wq.heap.size, 0, none⟩) 1 1) [partMail t.data.toList 0 n []] := own_mail1 hn1 (fun h => h) (by show (toB handW).size ≤ _; rw [toB_size']; decide) (by show (toB (subjL 0 n t.data.toList)).size ≤ _; rw [toB_size', subj_len 0 n _ (by omega) hn8, ← Lib.size_eq]; unfold maxLen; omega) (by show (toB (idL 0 n)).size ≤ _; rw [toB_size', id_len 0 n (by omega) hn8]; decide) (rdv_nil _ _)
      have hnn : OwnN 31 w _ (.slice (some ⟨wq.heap.size, 0, none⟩) 1 1) [partMail t.data.toList 0 n []] := ⟨hown1, fun k hk => by simp only [Value.ownBlock, Option.some.injEq] at hk; subst hk; exact hle, hcF⟩
      clear hn1 hown1 hF c0 c1 c2 c3 hA hBw hBO
      generalize wq.alloc (.cells #[.string ⟨#[104, 97, 110, 100, 115, 116, 105, 116, 99, 104]⟩, .string (toB (subjL 0 n t.data.toList)), .string (toB (idL 0 n)), .slice none 0 0] 31) = wL at hnn hcF ⊢
      go_wp2_with fail
      go_loopw [7, 33] (fun ov iv wr => ∃ i : Nat, i ≤ n ∧ iv = .int .i64 i ∧ OwnN 31 w wr ov (partMail t.data.toList 0 n [] :: packGo t.data.toList n 1 (p.take i)) ∧ Hid (firstOf packFault (p.drop i) = firstOf packFault p)) (fun _ iv _ => n - (intOf iv).toNat)
      case atStart => exact ⟨0, Nat.zero_le _, rfl, hnn, rfl⟩
      case round =>
        clear hnn hcF hle
        obtain ⟨i, hi, rfl, hn, hf⟩ := hrel
        rename World => wr
        obtain ⟨va, vn, vc, rfl⟩ := own_isSlice hn.own
        by_cases hlt : i < n
        · obtain ⟨c, hx⟩ : ∃ c, p[i]? = some c := ⟨_, List.getElem?_eq_getElem (by have := HN.out; omega)⟩
          obtain ⟨b, off, cv, rfl, -, -, d0, hcv⟩ := elems_row h3 hx
          have HPT0 : partMail t.data.toList 0 n [] :: packGo t.data.toList n 1 (p.take (i + 1)) = (partMail t.data.toList 0 n [] :: packGo t.data.toList n 1 (p.take i)) ++ [packOne t.data.toList n (i + 1) c] := by rw [packGo_take hx]; rfl
          have HPT := Lib.hid HPT0
          obtain ⟨st1, st2⟩ := firstOf_from hf.out hx
          have hLl : (partMail t.data.toList 0 n [] :: packGo t.data.toList n 1 (p.take i)).length ≤ 1000000000 := by rw [List.length_cons, packGo_len, List.length_take]; omega
          obtain ⟨L, hL⟩ : ∃ L, (partMail t.data.toList 0 n [] :: packGo t.data.toList n 1 (p.take i)) = L := ⟨_, rfl⟩
          rw [hL] at hn HPT hLl
          have d0 := hn.chg.cellNever d0
          have hcv := hcv.never hn.chg
          have hmr := hn.chg.cellNever hm
          clear hx hf h3 hL HPT0
          go_wp2_with fail
          refine (gitprint_any c _ _ hcv m hmr).mono ?_
          rintro e w1 ⟨rfl, hc1⟩
          have hn1 := hn.never hc1
          by_cases hz : (patchFault c).2 = 0
          · have HG : gitR c = toB (textG c) := if_pos hz
            have HPF : packFault c = if 40000 < (textG c).length then 3 else 0 := if_neg (by rw [hz]; decide)
            by_cases h4 : 40000 < (textG c).length
            · have HPF := HPF.trans (if_pos h4)
              have HF2 : Hid (packF t.data.toList p = 3) := by rw [Hid, HF.out, st2 (by rw [HPF]; decide), HPF]
              have HR : Hid (packR t.data.toList p = []) := if_neg (by rw [HF2.out]; decide)
              have t4 : decide ((40000 : Int) < ((toB (textG c)).size : Int)) = true := decide_eq_true (by rw [toB_size']; omega)
              rw [HG, hz, errV_zero]
              generalize toB (textG c) = S at t4 ⊢
              clear HPF h4 HG hz st1 st2 hcv
              go_wp2_with fail
              go_ret2
              exact ⟨_, by rw [HF2.out]; rfl, hn1.chg, by rw [HR.out]; exact rdv_nil _ _⟩
            · have HS2 : Hid (firstOf packFault (p.drop (i + 1)) = firstOf packFault p) := st1 (by rw [HPF, if_neg h4])
              have t4 : decide ((40000 : Int) < ((toB (textG c)).size : Int)) = false := decide_eq_false (by rw [toB_size']; omega)
              have zS : (toB (textG c)).size ≤ 40000 := by rw [toB_size']; omega
              have HST0 : (toB (textG c)).data.toList = textG c := toB_data _
              rw [HG, hz, errV_zero]
              obtain ⟨S, hS⟩ : ∃ S, toB (textG c) = S := ⟨_, rfl⟩
              rw [hS] at t4 zS HST0 ⊢
              have HST := Lib.hid HST0
              have hSm : S.size ≤ maxLen := by unfold maxLen; omega
              have hin : i + 1 ≤ n := hlt
              have FSi := Lib.hid (FS.out (i + 1) ((i : Int) + 1) (by omega) (by omega))
              have FIi := Lib.hid (FI.out (i + 1) ((i : Int) + 1) (by omega) (by omega))
              have zs : (toB (subjL (i + 1) n t.data.toList)).size ≤ maxLen := by rw [toB_size', subj_len _ n _ (by omega) hn8, ← Lib.size_eq]; unfold maxLen; omega
              have zi : (toB (idL (i + 1) n)).size ≤ maxLen := by rw [toB_size', id_len _ n (by omega) hn8]; decide
              have hBO : ¬ OwnB (.slice va vn vc) w1.heap.size := fun h => Nat.lt_irrefl _ (own_block_lt hn1.own _ h)
              obtain ⟨hA2, c0, c1, c2, c3⟩ := box1_part w1 97 t ((i : Int) + 1) n (.slice none 0 0) _ rfl
              clear HPF h4 HG hz st1 st2 hcv hS HST0 hn1
              go_wp2_with fail
              obtain ⟨wB, hwB⟩ : ∃ wB, w1.alloc (.cells #[.string t, .int .i64 ((i : Int) + 1), .int .i64 n, .slice none 0 0] 97) = wB := ⟨_, rfl⟩
              obtain ⟨B, hB⟩ : ∃ B, w1.heap.size = B := ⟨_, rfl⟩
              rw [hwB] at hA2 c0 c1 c2 c3 ⊢
              rw [hB] at c0 c1 c2 c3 hBO ⊢
              have hd := (hc1.trans hA2).drew
              clear hwB hB hc1 hA2
              refine wp_region_held_drew (S := fun w' => Chg (OwnB (.slice va vn vc)) wB w' ∧ w'.cell? ⟨B, 0, none⟩ = some (.string t) ∧ w'.cell? ⟨B, 1, none⟩ = some (.int .i64 ((i : Int) + 1)) ∧ w'.cell? ⟨B, 2, none⟩ = some (.int .i64 n) ∧ w'.cell? ⟨B, 3, none⟩ = some (.slice none 0 0)) (by kernel_rfl) ⟨(Chg.refl _ wB).drew, c0, c1, c2, c3⟩ (fun hH => ?_)
              refine' tk 0 ?_
              refine' tk 1 ?_
              refine' tk 3 ?_
              refine' tk 5 ?_
              refine wpAnyH_ready (rs := [2, 6]) (by kernel_rfl) (by simp) ?_
              refine AllReadyH.cons rfl (fun K hK => ?_) (AllReadyH.cons rfl (fun K hK => ?_) AllReadyH.nil)
              · go_simp
                go_at_call 44
                refine (FSi.out _).mono ?_
                rintro e wq ⟨rfl, hcq⟩
                try go_wp2_with fail
                refine hK.out _ _ (pkeep hH hcq (fun _ h => h.elim) hBO) (fun hH => ?_)
                clear hK K
                try simp only [Act.put, List.setIfInBounds_toArray, List.set_cons_zero, List.set_cons_succ]
                have hd := hd.trans hcq
                refine wpAnyH_ready (rs := [4, 6]) (by kernel_rfl) (by simp) ?_
                refine AllReadyH.cons rfl (fun K hK => ?_) (AllReadyH.cons rfl (fun K hK => ?_) AllReadyH.nil)
                · go_simp
                  go_at_call 45
                  refine (FIi.out _).mono ?_
                  rintro e wq ⟨rfl, hcq⟩
                  try go_wp2_with fail
                  refine hK.out _ _ (pkeep hH hcq (fun _ h => h.elim) hBO) (fun hH => ?_)
                  clear hK K
                  try simp only [Act.put, List.setIfInBounds_toArray, List.set_cons_zero, List.set_cons_succ]
                  have hd := hd.trans hcq
                  refine wpAnyH_ready (rs := [6]) (by kernel_rfl) (by simp) ?_
                  refine AllReadyH.cons rfl (fun K hK => ?_) AllReadyH.nil
                  obtain ⟨ba, bc, w3, hcv3, hc3, hb3⟩ := conv_made (w := wq) (s := S) hSm
                  have hbr : Rdv w3 (Old wr.heap.size) (.slice (some ba) S.size bc) (textG c) := by
                    rw [← HST.out]
                    exact hb3.sub (fun k _ hk => by unfold Old at hk ⊢; have := hd.size; omega)
                  go_simp
                  have hd := hd.trans hc3
                  refine hK.out _ _ (pkeep hH hc3 (fun _ h => h.elim) hBO) (fun hH => ?_)
                  clear hK K
                  try simp only [Act.put, List.setIfInBounds_toArray, List.set_cons_zero, List.set_cons_succ]
                  have hnq : OwnN 31 w w3 (.slice va vn vc) L := hn.never hd
                  have hy : Dat.rd w3 (fun k => Never k ∨ (Value.slice va vn vc).ownBlock = some k) [.string ⟨#[104, 97, 110, 100, 115, 116, 105, 116, 99, 104]⟩, .string (toB (subjL (i + 1) n t.data.toList)), .string (toB (idL (i + 1) n)), .slice (some ba) S.size bc] (packOne t.data.toList n (i + 1) c) := ⟨_, rfl, by show (toB handW).size ≤ _; rw [toB_size']; decide, zs, zi, hn.fresh hbr⟩
                  refine' tk 7 ?_
                  have hSX := hH
                  refine wpAnyH_ready (rs := [8]) (by kernel_rfl) (by simp) ?_
                  refine AllReadyH.cons rfl (fun K hK => ?_) AllReadyH.nil
                  go_simp
                  refine hK.out _ _ (pkeep hSX ((Chg.refl Never _).alloc _) (fun _ h => h.elim) hBO) (fun hH => ?_)
                  clear hK K
                  try simp only [Act.put, List.setIfInBounds_toArray, List.set_cons_zero, List.set_cons_succ]
                  refine wpAnyH_ready (rs := [9]) (by kernel_rfl) (by simp) ?_
                  refine AllReadyH.cons rfl (fun K hK => ?_) AllReadyH.nil
                  refine step_push (by rfl) _ _ 24 (by rfl) elemOk_mail (O := Never) (l := L) (y := packOne t.data.toList n (i + 1) c) (by rfl) (by rfl) (by simp) hnq.own hy (fun _ h => h.elim) hLl ?_
                  intro v' w5 hown5 hc5 hk5
                  refine hK.out _ _ (pkeep hSX hc5 (fun _ h => h) hBO) (fun hH => ?_)
                  clear hK K
                  try simp only [Act.put, List.setIfInBounds_toArray, List.set_cons_zero, List.set_cons_succ]
                  refine' tk 10 ?_
                  refine wpAnyH_done (by kernel_rfl) ?_ _
                  have hn5 := hnq.step1 hown5 hc5 hk5
                  obtain ⟨oa, on, oc, rfl⟩ := own_isSlice hn5.own
                  clear hown5 hc5 hk5 hnq hy hSX hd hbr hb3 hc3 hcv3
                  go_wp2_with fail
                  go_roundw
                  case rel => exact ⟨i + 1, hin, by go_num, by rw [HPT.out]; exact hn5, HS2⟩
                  case measure => simp [intOf] <;> omega
                · obtain ⟨ba, bc, w3, hcv3, hc3, hb3⟩ := conv_made (w := wq) (s := S) hSm
                  have hbr : Rdv w3 (Old wr.heap.size) (.slice (some ba) S.size bc) (textG c) := by
                    rw [← HST.out]
                    exact hb3.sub (fun k _ hk => by unfold Old at hk ⊢; have := hd.size; omega)
                  go_simp
                  have hd := hd.trans hc3
                  refine hK.out _ _ (pkeep hH hc3 (fun _ h => h.elim) hBO) (fun hH => ?_)
                  clear hK K
                  try simp only [Act.put, List.setIfInBounds_toArray, List.set_cons_zero, List.set_cons_succ]
                  refine wpAnyH_ready (rs := [4]) (by kernel_rfl) (by simp) ?_
                  refine AllReadyH.cons rfl (fun K hK => ?_) AllReadyH.nil
                  go_simp
                  go_at_call 45
                  refine (FIi.out _).mono ?_
                  rintro e wq ⟨rfl, hcq⟩
                  try go_wp2_with fail
                  refine hK.out _ _ (pkeep hH hcq (fun _ h => h.elim) hBO) (fun hH => ?_)
                  clear hK K
                  try simp only [Act.put, List.setIfInBounds_toArray, List.set_cons_zero, List.set_cons_succ]
                  have hd := hd.trans hcq
                  have hbr := hbr.never hcq
                  have hnq : OwnN 31 w wq (.slice va vn vc) L := hn.never hd
                  have hy : Dat.rd wq (fun k => Never k ∨ (Value.slice va vn vc).ownBlock = some k) [.string ⟨#[104, 97, 110, 100, 115, 116, 105, 116, 99, 104]⟩, .string (toB (subjL (i + 1) n t.data.toList)), .string (toB (idL (i + 1) n)), .slice (some ba) S.size bc] (packOne t.data.toList n (i + 1) c) := ⟨_, rfl, by show (toB handW).size ≤ _; rw [toB_size']; decide, zs, zi, hn.fresh hbr⟩
                  refine' tk 7 ?_
                  have hSX := hH
                  refine wpAnyH_ready (rs := [8]) (by kernel_rfl) (by simp) ?_
                  refine AllReadyH.cons rfl (fun K hK => ?_) AllReadyH.nil
                  go_simp
                  refine hK.out _ _ (pkeep hSX ((Chg.refl Never _).alloc _) (fun _ h => h.elim) hBO) (fun hH => ?_)
                  clear hK K
                  try simp only [Act.put, List.setIfInBounds_toArray, List.set_cons_zero, List.set_cons_succ]
                  refine wpAnyH_ready (rs := [9]) (by kernel_rfl) (by simp) ?_
                  refine AllReadyH.cons rfl (fun K hK => ?_) AllReadyH.nil
                  refine step_push (by rfl) _ _ 24 (by rfl) elemOk_mail (O := Never) (l := L) (y := packOne t.data.toList n (i + 1) c) (by rfl) (by rfl) (by simp) hnq.own hy (fun _ h => h.elim) hLl ?_
                  intro v' w5 hown5 hc5 hk5
                  refine hK.out _ _ (pkeep hSX hc5 (fun _ h => h) hBO) (fun hH => ?_)
                  clear hK K
                  try simp only [Act.put, List.setIfInBounds_toArray, List.set_cons_zero, List.set_cons_succ]
                  refine' tk 10 ?_
                  refine wpAnyH_done (by kernel_rfl) ?_ _
                  have hn5 := hnq.step1 hown5 hc5 hk5
                  obtain ⟨oa, on, oc, rfl⟩ := own_isSlice hn5.own
                  clear hown5 hc5 hk5 hnq hy hSX hd hbr hb3 hc3 hcv3
                  go_wp2_with fail
                  go_roundw
                  case rel => exact ⟨i + 1, hin, by go_num, by rw [HPT.out]; exact hn5, HS2⟩
                  case measure => simp [intOf] <;> omega
              · obtain ⟨ba, bc, w3, hcv3, hc3, hb3⟩ := conv_made (w := wB.drew) (s := S) hSm
                have hbr : Rdv w3 (Old wr.heap.size) (.slice (some ba) S.size bc) (textG c) := by
                  rw [← HST.out]
                  exact hb3.sub (fun k _ hk => by unfold Old at hk ⊢; have := hd.size; omega)
                go_simp
                have hd := hd.trans hc3
                refine hK.out _ _ (pkeep hH hc3 (fun _ h => h.elim) hBO) (fun hH => ?_)
                clear hK K
                try simp only [Act.put, List.setIfInBounds_toArray, List.set_cons_zero, List.set_cons_succ]
                refine wpAnyH_ready (rs := [2]) (by kernel_rfl) (by simp) ?_
                refine AllReadyH.cons rfl (fun K hK => ?_) AllReadyH.nil
                go_simp
                go_at_call 44
                refine (FSi.out _).mono ?_
                rintro e wq ⟨rfl, hcq⟩
                try go_wp2_with fail
                refine hK.out _ _ (pkeep hH hcq (fun _ h => h.elim) hBO) (fun hH => ?_)
                clear hK K
                try simp only [Act.put, List.setIfInBounds_toArray, List.set_cons_zero, List.set_cons_succ]
                have hd := hd.trans hcq
                have hbr := hbr.never hcq
                refine wpAnyH_ready (rs := [4]) (by kernel_rfl) (by simp) ?_
                refine AllReadyH.cons rfl (fun K hK => ?_) AllReadyH.nil
                go_simp
                go_at_call 45
                refine (FIi.out _).mono ?_
                rintro e wq ⟨rfl, hcq⟩
                try go_wp2_with fail
                refine hK.out _ _ (pkeep hH hcq (fun _ h => h.elim) hBO) (fun hH => ?_)
                clear hK K
                try simp only [Act.put, List.setIfInBounds_toArray, List.set_cons_zero, List.set_cons_succ]
                have hd := hd.trans hcq
                have hbr := hbr.never hcq
                have hnq : OwnN 31 w wq (.slice va vn vc) L := hn.never hd
                have hy : Dat.rd wq (fun k => Never k ∨ (Value.slice va vn vc).ownBlock = some k) [.string ⟨#[104, 97, 110, 100, 115, 116, 105, 116, 99, 104]⟩, .string (toB (subjL (i + 1) n t.data.toList)), .string (toB (idL (i + 1) n)), .slice (some ba) S.size bc] (packOne t.data.toList n (i + 1) c) := ⟨_, rfl, by show (toB handW).size ≤ _; rw [toB_size']; decide, zs, zi, hn.fresh hbr⟩
                refine' tk 7 ?_
                have hSX := hH
                refine wpAnyH_ready (rs := [8]) (by kernel_rfl) (by simp) ?_
                refine AllReadyH.cons rfl (fun K hK => ?_) AllReadyH.nil
                go_simp
                refine hK.out _ _ (pkeep hSX ((Chg.refl Never _).alloc _) (fun _ h => h.elim) hBO) (fun hH => ?_)
                clear hK K
                try simp only [Act.put, List.setIfInBounds_toArray, List.set_cons_zero, List.set_cons_succ]
                refine wpAnyH_ready (rs := [9]) (by kernel_rfl) (by simp) ?_
                refine AllReadyH.cons rfl (fun K hK => ?_) AllReadyH.nil
                refine step_push (by rfl) _ _ 24 (by rfl) elemOk_mail (O := Never) (l := L) (y := packOne t.data.toList n (i + 1) c) (by rfl) (by rfl) (by simp) hnq.own hy (fun _ h => h.elim) hLl ?_
                intro v' w5 hown5 hc5 hk5
                refine hK.out _ _ (pkeep hSX hc5 (fun _ h => h) hBO) (fun hH => ?_)
                clear hK K
                try simp only [Act.put, List.setIfInBounds_toArray, List.set_cons_zero, List.set_cons_succ]
                refine' tk 10 ?_
                refine wpAnyH_done (by kernel_rfl) ?_ _
                have hn5 := hnq.step1 hown5 hc5 hk5
                obtain ⟨oa, on, oc, rfl⟩ := own_isSlice hn5.own
                clear hown5 hc5 hk5 hnq hy hSX hd hbr hb3 hc3 hcv3
                go_wp2_with fail
                go_roundw
                case rel => exact ⟨i + 1, hin, by go_num, by rw [HPT.out]; exact hn5, HS2⟩
                case measure => simp [intOf] <;> omega
          · have HPF : packFault c = (patchFault c).2 := if_pos hz
            have HF2 : Hid (packF t.data.toList p = (patchFault c).2) := by rw [Hid, HF.out, st2 (by rw [HPF]; exact hz), HPF]
            have HR : Hid (packR t.data.toList p = []) := if_neg (by rw [HF2.out]; exact hz)
            have HZ := Lib.hid hz
            rw [errV_pos hz]
            generalize gitR c = G
            generalize (patchFault c).2 = fz at HF2 HZ ⊢
            clear HPF hz st1 st2 hcv
            go_wp2_with fail
            go_ret2
            exact ⟨_, by rw [HF2.out, errV_pos HZ.out]; try rfl, hn1.chg, by rw [HR.out]; exact rdv_nil _ _⟩
        · obtain rfl : n = i := by omega
          have hf' := hf.out
          rw [List.drop_of_length_le (by have := HN.out; omega)] at hf'
          have HF2 : Hid (packF t.data.toList p = 0) := by rw [Hid, HF.out, ← hf']; rfl
          have HR : Hid (packR t.data.toList p = packL t.data.toList p) := if_pos HF2.out
          have hnL : OwnN 31 w wr (.slice va vn vc) (packL t.data.toList p) := by
            have := hn
            rw [List.take_of_length_le (by have := HN.out; omega)] at this
            rw [HPL.out]
            exact this
          clear hf hf' hn
          go_wp2_with fail
          go_ret2
          exact ⟨_, by rw [HF2.out]; rfl, hnL.chg, by rw [HR.out]; exact hnL.own.rdv⟩
end Go.Proofs.YtjiaidchcldocaaGreatDoor
