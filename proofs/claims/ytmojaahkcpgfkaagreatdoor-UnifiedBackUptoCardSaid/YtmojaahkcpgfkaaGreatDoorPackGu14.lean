/-
  PARTS: THE LAW UnifiedBack, walked.
-/
import Derived.Test.YtmojaahkcpgfkaaGreatDoorPackGu13
import Derived.Test.YtmojaahkcpgfkaaGreatDoorPackGu9
import Derived.Test.YtmojaahkcpgfkaaGreatDoorPackGu4
import Derived.Test.YtmojaahkcpgfkaaGreatDoorPackGu1
import Derived.Deep.RegionHeld3
namespace Go.Proofs.YtmojaahkcpgfkaaGreatDoor
open Go.RowKit

def oneU : Hunk := ⟨1, 1, [⟨43, toB [120]⟩]⟩
def oneT : List UInt8 := [64, 64, 32, 45, 49, 44, 48, 32, 43, 50, 44, 49, 32, 64, 64, 10, 43, 120, 10]
theorem oneU_fault : (hunksFault [oneU]).2 = 0 := by decide +kernel
theorem oneU_text : textU [oneU] = oneT := by decide +kernel
theorem ukeep {w2 wr wq : World} {p q : Addr} {a b : Value} (h : Chg Never w2 wr ∧ wr.cell? p = some a ∧ wr.cell? q = some b) (k : Chg Never wr wq) : Chg Never w2 wq ∧ wq.cell? p = some a ∧ wq.cell? q = some b :=
  ⟨h.1.trans k, k.cellNever h.2.1, k.cellNever h.2.2⟩
theorem uniR_back {X : List Hunk} {s : ByteArray} {k : Nat} (h : parseU s.data.toList = (X, k, 0)) : uniR X = s ∧ (hunksFault X).2 = 0 := by
  obtain ⟨e1, e2, -⟩ := parse_print h
  unfold uniR
  rw [if_pos e2, e1]
  exact ⟨rfl, e2⟩
theorem cut_data (T : ByteArray) (n : Nat) (_hn : n ≤ T.size) : (T.extract 0 n).data.toList = T.data.toList.take n := by
  rw [Lib.extract_data, List.drop_zero, Nat.sub_zero]

theorem hunks_sixty {l : List Hunk} (e : (hunksFault l).2 = 0) : l.length ≤ 60 := by
  unfold hunksFault at e
  by_cases q : 60 < l.length
  · rw [if_pos q] at e; cases e
  · omega
theorem textU_last {l init : List Hunk} {h : Hunk} {ms : List Mark} {m : Mark} (hl : l = init ++ [h]) (hm : h.marks = ms ++ [m]) : m.text.size + 2 ≤ (textU l).length := by
  subst hl
  have e2 : (textL ([m].map markL)).length = m.text.size + 2 := by
    show (markL m ++ [10] ++ []).length = _
    unfold markL
    simp only [List.length_append, List.length_cons, List.length_nil, Array.length_toList, ByteArray.size_data]
  have e1 : textL (h.marks.map markL) = textL (ms.map markL) ++ textL ([m].map markL) := by rw [hm, List.map_append, textL_app]
  have e3 : textU (init ++ [h]) = textL (linesU init) ++ textL (hunkL h) := by
    unfold textU linesU
    rw [List.flatMap_append, textL_app, List.flatMap_cons, List.flatMap_nil, List.append_nil]
  rw [e3, hunkR_head, e1, List.length_append, List.length_append, List.length_append, List.length_append, e2]
  omega
set_option maxHeartbeats 2000000 in
set_option maxRecDepth 100000 in
theorem law_unifiedBack (l : List Hunk) (cut : Int) (s : ByteArray) (v : Value) (w : World) (h : Rdv w Never v l) (hcI : I64 cut) (hs : s.size ≤ 1048576) (m : Int) (_hm : w.cell? ⟨1, 0, none⟩ = some (.int .i64 m)) (hg : Globs w m) (hgt : w.cell? ⟨0, 0, none⟩ = some errT) :
    Calls Tryz.prog 4 #[v, .int .i64 cut, .string s] w fun e w' => e = .returned (.bool true) ∧ Chg Never w w' := by
  obtain ⟨a, cap, rfl, h1, h2, h3⟩ := rdv_slice h
  unfold maxLen at h2
  have q1 : Chg Never w (w.alloc (.cells #[.int .u8 43, .string ⟨#[120]⟩] 39)) := (Chg.refl Never w).alloc _
  have m1 : Rdv (w.alloc (.cells #[.int .u8 43, .string ⟨#[120]⟩] 39)) Never (.slice (some ⟨w.heap.size, 0, none⟩) 1 1) [(⟨43, toB [120]⟩ : Mark)] := rdv_lit (cs := [.int .u8 43, .string ⟨#[120]⟩]) (heap_alloc_new _ _) rfl (by decide) ⟨⟨rfl, by decide, by decide, by decide⟩, trivial⟩
  obtain ⟨wA, hwA⟩ : ∃ wA, w.alloc (.cells #[.int .u8 43, .string ⟨#[120]⟩] 39) = wA := ⟨_, rfl⟩
  rw [hwA] at q1 m1
  have q2 : Chg Never w (wA.alloc (.cells #[.int .i64 1, .int .i64 1, .slice (some ⟨w.heap.size, 0, none⟩) 1 1] 42)) := q1.alloc _
  have r0 : Rdv (wA.alloc (.cells #[.int .i64 1, .int .i64 1, .slice (some ⟨w.heap.size, 0, none⟩) 1 1] 42)) Never (.slice (some ⟨wA.heap.size, 0, none⟩) 1 1) [oneU] := by
    exact rdv_lit (cs := [.int .i64 1, .int .i64 1, .slice (some ⟨w.heap.size, 0, none⟩) 1 1]) (heap_alloc_new _ _) rfl (by decide) ⟨⟨_, rfl, m1.never ((Chg.refl Never wA).alloc _)⟩, trivial⟩
  have HG : Hid (uniR [oneU] = toB oneT) := by unfold Hid uniR; rw [if_pos oneU_fault, oneU_text]
  have tf : ((toB oneT).toList == [64, 64, 32, 45, 49, 44, 48, 32, 43, 50, 44, 49, 32, 64, 64, 10, 43, 120, 10]) = true := by rw [Lib.toList_data, toB_data]; rfl
  clear q1 m1
  go_enter Tryz.func4, Tryz.ntmps4
  go_wp2_with fail
  try rw [hwA]
  (with_reducible refine (uniprint_any [oneU] _ _ r0).mono ?_)
  rintro e w1 ⟨rfl, hc1⟩
  rw [HG.out, oneU_fault, errV_zero]
  have hw1 := q2.trans hc1
  clear hwA r0
  go_wp2_with fail
  refine (uniparse_any s _ (by omega) m (hg.never hw1)).mono ?_
  rintro e w2 ⟨r2, rfl, hc2, hr2⟩
  have hw2 := hw1.trans hc2
  clear hc2 hc1 q2 tf hw1
  cases hpg : parseU s.data.toList with
  | mk X kf =>
    obtain ⟨k, f⟩ := kf
    rw [hpg] at hr2
    simp only at hr2 ⊢
    obtain ⟨ea, ec, rfl, -, -, -⟩ := rdv_slice hr2
    by_cases hk : f = 0
    · subst hk
      obtain ⟨e1, e2⟩ := uniR_back hpg
      have HX := Lib.hid e1
      have tss : (s.toList == s.toList) = true := by simp
      have tsn : (s.toList != s.toList) = false := by simp
      have E2 := Lib.hid e2
      rw [errV_zero]
      clear hpg e1 e2
      go_wp2_with fail
      refine (uniprint_any X _ _ hr2).mono ?_
      rintro e w3 ⟨rfl, hc3⟩
      have hw3 := hw2.trans hc3
      rw [HX.out, E2.out, errV_zero]
      clear hc3 hr2
      go_wp2_with fail
      refine (uniprint_any l _ _ (h.never hw3)).mono ?_
      rintro e w5 ⟨rfl, hc5⟩
      have hw := hw3.trans hc5
      clear hc5
      by_cases zp : (hunksFault l).2 = 0
      · have HB := Lib.hid (print_parse zp)
        have HT : Hid ((uniR l).data.toList = textU l) := by unfold Hid uniR; rw [if_pos zp, toB_data]
        have hUz := (hunks_ok zp).2.2
        have HTL : Hid ((uniR l).size = (textU l).length) := by rw [Hid, Lib.size_eq, HT.out]
        have hTz : (uniR l).size ≤ 400000 := by rw [HTL.out]; omega
        have hpp := uniparse_any (uniR l) _ (by omega) m (hg.never hw)
        rw [HT.out, HB.out] at hpp
        have HPP := Lib.hid hpp
        have HZ := Lib.hid zp
        rw [zp, errV_zero]
        generalize uniR l = T at hTz HPP HT HTL ⊢
        clear zp hpp hUz
        go_wp2_with fail
        refine HPP.out.mono ?_
        rintro e w6 ⟨r6, rfl, hc6, hr6⟩
        have hw := hw.trans hc6
        simp only at hr6 ⊢
        rw [errV_zero]
        clear HPP
        obtain ⟨ea, ec, rfl, -, -, -⟩ := rdv_slice hr6
        go_wp2_with fail
        refine (hunks_eq_any l l _ _ _ hr6 (h.never hw)).mono ?_
        rintro e w7 ⟨rfl, hc7⟩
        have hw := hw.trans hc7
        rw [decide_eq_true rfl]
        clear hr6 hc6 hc7
        by_cases hne : l = []
        · have t0 : ((T.size : Int) == 0) = true := by rw [HTL.out, hne]; rfl
          clear hne
          go_wp2_with fail
          go_ret
          exact ⟨rfl, hw⟩
        · obtain ⟨init, h0, ms, mk, hl, hmk⟩ := uni_last HZ.out hne
          have hlen : l.length = init.length + 1 := by rw [hl, List.length_append]; rfl
          have hlq : h0.marks.length = ms.length + 1 := by rw [hmk, List.length_append]; rfl
          have hx0 : l[init.length]? = some h0 := by rw [hl]; simp
          have hy0 : h0.marks[ms.length]? = some mk := by rw [hmk]; simp
          obtain ⟨b, off, mv, rfl, -, -, -, -, c2, hmv⟩ := elems_hunk h3 hx0
          obtain ⟨ma, mc, rfl, -, hmcz, hme⟩ := rdv_slice hmv
          obtain ⟨mb, moff, rfl, -, -, -, d1, -, -, hys⟩ := elems_mark hme hy0
          have c2 := hw.cellNever c2
          have d1 := hw.cellNever d1
          have HL := Lib.hid hl
          have HMK := Lib.hid hmk
          have hcut : ∀ k : Nat, k < mk.text.size + 1 → k + 1 ≤ T.size := fun k hk => by
            have hm := textU_last hl hmk
            rw [HTL.out]; omega
          have h1T : 1 ≤ T.size := hcut 0 (by omega)
          have t0 : ((T.size : Int) == 0) = false := by rw [beq_eq_false_iff_ne]; omega
          have hl60 := hunks_sixty HZ.out
          have hmq : ms.length ≤ 120 := by have := scriptFault_len (hunks_each HZ.out h0 (by rw [hl]; simp)).1; omega
          obtain ⟨n1, hn1⟩ : ∃ n1, init.length = n1 := ⟨_, rfl⟩
          obtain ⟨q1, hq1⟩ : ∃ q1, ms.length = q1 := ⟨_, rfl⟩
          rw [hn1] at hlen c2
          rw [hq1] at hlq d1 hmq
          have hyz : mk.text.size ≤ 1000000 := by have := hcut (mk.text.size) (by omega); omega
          have sT : IntKind.i64.wrap ((T.size : Int) - 1) = ((T.size - 1 : Nat) : Int) := by rw [show (T.size : Int) - 1 = ((T.size - 1 : Nat) : Int) by omega]; exact IntWalk.i64_in _ (by omega)
          have sL : IntKind.i64.wrap ((l.length : Int) - 1) = (n1 : Int) := by rw [show (l.length : Int) - 1 = (n1 : Int) by omega]; exact IntWalk.i64_in _ (by omega)
          have sQ : IntKind.i64.wrap ((h0.marks.length : Int) - 1) = (q1 : Int) := by rw [show (h0.marks.length : Int) - 1 = (q1 : Int) by omega]; exact IntWalk.i64_in _ (by omega)
          have sX : IntKind.i64.wrap ((mk.text.size : Int) + 1) = ((mk.text.size + 1 : Nat) : Int) := by rw [show (mk.text.size : Int) + 1 = ((mk.text.size + 1 : Nat) : Int) by omega]; exact IntWalk.i64_in _ (by omega)
          have iL : (n1 : Int) < (l.length : Int) := by omega
          have iQ : (q1 : Int) < (h0.marks.length : Int) := by omega
          have HN := Lib.hid hlen
          have HQ := Lib.hid hlq
          clear hl hmk hx0 hy0 hmv hme hlen hlq hne hn1 hq1
          go_wp2_with fail
          rename World => wx
          refine wp_region_held_drew (S := fun w' => Chg Never wx w' ∧ w'.cell? ⟨b, off + n1 * 3 + 2, none⟩ = some (.slice (some ⟨mb, moff, none⟩) h0.marks.length mc) ∧ w'.cell? ⟨mb, moff + q1 * 2 + 1, none⟩ = some (.string mk.text)) (by kernel_rfl) ⟨(Chg.refl Never wx).drew, c2, d1⟩ (fun hH => ?_)
          refine' wpAnyH_take (i := 0) ?hi0 (by kernel_rfl) (by kernel_rfl) (by kernel_rfl) ?hQ0 (Or.inl ⟨?hw0, ?hy0⟩) (by assumption) ?_
          case hi0 => (simp only [List.getElem?_toArray, List.getElem?_cons_zero]; rfl)
          case hQ0 => exact fun _ _ _ h => h
          case hw0 => rfl
          case hy0 => (intro w' hSw; (try dsimp only at hSw); go_simp; all_goals with_reducible rfl)
          try simp only [Act.put, List.setIfInBounds_toArray, List.set_cons_zero, List.set_cons_succ]
          refine' wpAnyH_take (i := 1) ?hi1 (by kernel_rfl) (by kernel_rfl) (by kernel_rfl) ?hQ1 (Or.inl ⟨?hw1, ?hy1⟩) (by assumption) ?_
          case hi1 => (simp only [List.getElem?_toArray, List.getElem?_cons_succ, List.getElem?_cons_zero]; rfl)
          case hQ1 => exact fun _ _ _ h => h
          case hw1 => rfl
          case hy1 => (intro w' hSw; (try dsimp only at hSw); go_simp; all_goals with_reducible rfl)
          try simp only [Act.put, List.setIfInBounds_toArray, List.set_cons_zero, List.set_cons_succ]
          refine' wpAnyH_take (i := 2) ?hi2 (by kernel_rfl) (by kernel_rfl) (by kernel_rfl) ?hQ2 (Or.inl ⟨?hw2, ?hy2⟩) (by assumption) ?_
          case hi2 => (simp only [List.getElem?_toArray, List.getElem?_cons_succ, List.getElem?_cons_zero]; rfl)
          case hQ2 => exact fun _ _ _ h => h
          case hw2 => rfl
          case hy2 => (intro w' hSw; (try dsimp only at hSw); go_simp; all_goals with_reducible rfl)
          try simp only [Act.put, List.setIfInBounds_toArray, List.set_cons_zero, List.set_cons_succ]
          refine' wpAnyH_take (i := 3) ?hi3 (by kernel_rfl) (by kernel_rfl) (by kernel_rfl) ?hQ3 (Or.inl ⟨?hw3, ?hy3⟩) (by assumption) ?_
          case hi3 => (simp only [List.getElem?_toArray, List.getElem?_cons_succ, List.getElem?_cons_zero]; rfl)
          case hQ3 => exact fun _ _ _ h => h
          case hw3 => rfl
          case hy3 => (intro w' hSw; (try dsimp only at hSw); go_simp; all_goals with_reducible rfl)
          try simp only [Act.put, List.setIfInBounds_toArray, List.set_cons_zero, List.set_cons_succ]
          refine' wpAnyH_take (i := 4) ?hi4 (by kernel_rfl) (by kernel_rfl) (by kernel_rfl) ?hQ4 (Or.inl ⟨?hw4, ?hy4⟩) (by assumption) ?_
          case hi4 => (simp only [List.getElem?_toArray, List.getElem?_cons_succ, List.getElem?_cons_zero]; rfl)
          case hQ4 => exact fun _ _ _ h => h
          case hw4 => rfl
          case hy4 => (intro w' hSw; (try dsimp only at hSw); go_simp; all_goals with_reducible rfl)
          try simp only [Act.put, List.setIfInBounds_toArray, List.set_cons_zero, List.set_cons_succ]
          refine' wpAnyH_take (i := 5) ?hi5 (by kernel_rfl) (by kernel_rfl) (by kernel_rfl) ?hQ5 (Or.inl ⟨?hw5, ?hy5⟩) (by assumption) ?_
          case hi5 => (simp only [List.getElem?_toArray, List.getElem?_cons_succ, List.getElem?_cons_zero]; rfl)
          case hQ5 => exact fun _ _ _ h => h
          case hw5 => rfl
          case hy5 => (intro w' hSw; (try dsimp only at hSw); go_simp; all_goals with_reducible rfl)
          try simp only [Act.put, List.setIfInBounds_toArray, List.set_cons_zero, List.set_cons_succ]
          refine' wpAnyH_take (i := 6) ?hi6 (by kernel_rfl) (by kernel_rfl) (by kernel_rfl) ?hQ6 (Or.inl ⟨?hw6, ?hy6⟩) (by assumption) ?_
          case hi6 => (simp only [List.getElem?_toArray, List.getElem?_cons_succ, List.getElem?_cons_zero]; rfl)
          case hQ6 => exact fun _ _ _ h => h
          case hw6 => rfl
          case hy6 => (intro w' hSw; (try dsimp only at hSw); go_simp; all_goals with_reducible rfl)
          try simp only [Act.put, List.setIfInBounds_toArray, List.set_cons_zero, List.set_cons_succ]
          refine' wpAnyH_take (i := 7) ?hi7 (by kernel_rfl) (by kernel_rfl) (by kernel_rfl) ?hQ7 (Or.inl ⟨?hw7, ?hy7⟩) (by assumption) ?_
          case hi7 => (simp only [List.getElem?_toArray, List.getElem?_cons_succ, List.getElem?_cons_zero]; rfl)
          case hQ7 => exact fun _ _ _ h => h
          case hw7 => rfl
          case hy7 => (intro w' hSw; (try dsimp only at hSw); go_simp; all_goals with_reducible rfl)
          try simp only [Act.put, List.setIfInBounds_toArray, List.set_cons_zero, List.set_cons_succ]
          refine' wpAnyH_take (i := 8) ?hi8 (by kernel_rfl) (by kernel_rfl) (by kernel_rfl) ?hQ8 (Or.inl ⟨?hw8, ?hy8⟩) (by assumption) ?_
          case hi8 => (simp only [List.getElem?_toArray, List.getElem?_cons_succ, List.getElem?_cons_zero]; rfl)
          case hQ8 => exact fun _ _ _ h => h
          case hw8 => rfl
          case hy8 => (intro w' hSw; (try dsimp only at hSw); go_simp; all_goals with_reducible rfl)
          try simp only [Act.put, List.setIfInBounds_toArray, List.set_cons_zero, List.set_cons_succ]
          refine' wpAnyH_take (i := 9) ?hi9 (by kernel_rfl) (by kernel_rfl) (by kernel_rfl) ?hQ9 (Or.inl ⟨?hw9, ?hy9⟩) (by assumption) ?_
          case hi9 => (simp only [List.getElem?_toArray, List.getElem?_cons_succ, List.getElem?_cons_zero]; rfl)
          case hQ9 => exact fun _ _ _ h => h
          case hw9 => rfl
          case hy9 => (intro w' hSw; (try dsimp only at hSw); go_simp; all_goals with_reducible rfl)
          try simp only [Act.put, List.setIfInBounds_toArray, List.set_cons_zero, List.set_cons_succ]
          refine' wpAnyH_take (i := 10) ?hi10 (by kernel_rfl) (by kernel_rfl) (by kernel_rfl) ?hQ10 (Or.inl ⟨?hw10, ?hy10⟩) (by assumption) ?_
          case hi10 => (simp only [List.getElem?_toArray, List.getElem?_cons_succ, List.getElem?_cons_zero]; rfl)
          case hQ10 => exact fun _ _ _ h => h
          case hw10 => rfl
          case hy10 => (intro w' hSw; (try dsimp only at hSw); go_simp; all_goals with_reducible rfl)
          try simp only [Act.put, List.setIfInBounds_toArray, List.set_cons_zero, List.set_cons_succ]
          refine' wpAnyH_take (i := 11) ?hi11 (by kernel_rfl) (by kernel_rfl) (by kernel_rfl) ?hQ11 (Or.inl ⟨?hw11, ?hy11⟩) (by assumption) ?_
          case hi11 => (simp only [List.getElem?_toArray, List.getElem?_cons_succ, List.getElem?_cons_zero]; rfl)
          case hQ11 => exact fun _ _ _ h => h
          case hw11 => rfl
          case hy11 => (intro w' hSw; (try dsimp only at hSw); go_simp; all_goals with_reducible rfl)
          try simp only [Act.put, List.setIfInBounds_toArray, List.set_cons_zero, List.set_cons_succ]
          refine' wpAnyH_take (i := 12) ?hi12 (by kernel_rfl) (by kernel_rfl) (by kernel_rfl) ?hQ12 (Or.inl ⟨?hw12, ?hy12⟩) (by assumption) ?_
          case hi12 => (simp only [List.getElem?_toArray, List.getElem?_cons_succ, List.getElem?_cons_zero]; rfl)
          case hQ12 => exact fun _ _ _ h => h
          case hw12 => rfl
          case hy12 => (intro w' hSw; (try dsimp only at hSw); go_simp; all_goals with_reducible rfl)
          try simp only [Act.put, List.setIfInBounds_toArray, List.set_cons_zero, List.set_cons_succ]
          refine' wpAnyH_take (i := 13) ?hi13 (by kernel_rfl) (by kernel_rfl) (by kernel_rfl) ?hQ13 (Or.inl ⟨?hw13, ?hy13⟩) (by assumption) ?_
          case hi13 => (simp only [List.getElem?_toArray, List.getElem?_cons_succ, List.getElem?_cons_zero]; rfl)
          case hQ13 => exact fun _ _ _ h => h
          case hw13 => rfl
          case hy13 => (intro w' hSw; (try dsimp only at hSw); go_simp; all_goals with_reducible rfl)
          try simp only [Act.put, List.setIfInBounds_toArray, List.set_cons_zero, List.set_cons_succ]
          refine' wpAnyH_take (i := 14) ?hi14 (by kernel_rfl) (by kernel_rfl) (by kernel_rfl) ?hQ14 (Or.inl ⟨?hw14, ?hy14⟩) (by assumption) ?_
          case hi14 => (simp only [List.getElem?_toArray, List.getElem?_cons_succ, List.getElem?_cons_zero]; rfl)
          case hQ14 => exact fun _ _ _ h => h
          case hw14 => rfl
          case hy14 => (intro w' hSw; (try dsimp only at hSw); go_simp; all_goals with_reducible rfl)
          try simp only [Act.put, List.setIfInBounds_toArray, List.set_cons_zero, List.set_cons_succ]
          refine' wpAnyH_take (i := 15) ?hi15 (by kernel_rfl) (by kernel_rfl) (by kernel_rfl) ?hQ15 (Or.inl ⟨?hw15, ?hy15⟩) (by assumption) ?_
          case hi15 => (simp only [List.getElem?_toArray, List.getElem?_cons_succ, List.getElem?_cons_zero]; rfl)
          case hQ15 => exact fun _ _ _ h => h
          case hw15 => rfl
          case hy15 => (intro w' hSw; (try dsimp only at hSw); go_simp; all_goals with_reducible rfl)
          try simp only [Act.put, List.setIfInBounds_toArray, List.set_cons_zero, List.set_cons_succ]
          refine' wpAnyH_take (i := 16) ?hi16 (by kernel_rfl) (by kernel_rfl) (by kernel_rfl) ?hQ16 (Or.inl ⟨?hw16, ?hy16⟩) (by assumption) ?_
          case hi16 => (simp only [List.getElem?_toArray, List.getElem?_cons_succ, List.getElem?_cons_zero]; rfl)
          case hQ16 => exact fun _ _ _ h => h
          case hw16 => rfl
          case hy16 => (intro w' hSw; (try dsimp only at hSw); go_simp; all_goals with_reducible rfl)
          try simp only [Act.put, List.setIfInBounds_toArray, List.set_cons_zero, List.set_cons_succ]
          refine' wpAnyH_take (i := 17) ?hi17 (by kernel_rfl) (by kernel_rfl) (by kernel_rfl) ?hQ17 (Or.inl ⟨?hw17, ?hy17⟩) (by assumption) ?_
          case hi17 => (simp only [List.getElem?_toArray, List.getElem?_cons_succ, List.getElem?_cons_zero]; rfl)
          case hQ17 => exact fun _ _ _ h => h
          case hw17 => rfl
          case hy17 => (intro w' hSw; (try dsimp only at hSw); go_simp; all_goals with_reducible rfl)
          try simp only [Act.put, List.setIfInBounds_toArray, List.set_cons_zero, List.set_cons_succ]
          refine' wpAnyH_take (i := 18) ?hi18 (by kernel_rfl) (by kernel_rfl) (by kernel_rfl) ?hQ18 (Or.inl ⟨?hw18, ?hy18⟩) (by assumption) ?_
          case hi18 => (simp only [List.getElem?_toArray, List.getElem?_cons_succ, List.getElem?_cons_zero]; rfl)
          case hQ18 => exact fun _ _ _ h => h
          case hw18 => rfl
          case hy18 => (intro w' hSw; (try dsimp only at hSw); go_simp; all_goals with_reducible rfl)
          try simp only [Act.put, List.setIfInBounds_toArray, List.set_cons_zero, List.set_cons_succ]
          refine' wpAnyH_take (i := 19) ?hi19 (by kernel_rfl) (by kernel_rfl) (by kernel_rfl) ?hQ19 (Or.inl ⟨?hw19, ?hy19⟩) (by assumption) ?_
          case hi19 => (simp only [List.getElem?_toArray, List.getElem?_cons_succ, List.getElem?_cons_zero]; rfl)
          case hQ19 => exact fun _ _ _ h => h
          case hw19 => rfl
          case hy19 => (intro w' hSw; (try dsimp only at hSw); go_simp; all_goals with_reducible rfl)
          try simp only [Act.put, List.setIfInBounds_toArray, List.set_cons_zero, List.set_cons_succ]
          refine' wpAnyH_take (i := 20) ?hi20 (by kernel_rfl) (by kernel_rfl) (by kernel_rfl) ?hQ20 (Or.inl ⟨?hw20, ?hy20⟩) (by assumption) ?_
          case hi20 => (simp only [List.getElem?_toArray, List.getElem?_cons_succ, List.getElem?_cons_zero]; rfl)
          case hQ20 => exact fun _ _ _ h => h
          case hw20 => rfl
          case hy20 => (intro w' hSw; (try dsimp only at hSw); go_simp; all_goals with_reducible rfl)
          try simp only [Act.put, List.setIfInBounds_toArray, List.set_cons_zero, List.set_cons_succ]
          refine' wpAnyH_take (i := 21) ?hi21 (by kernel_rfl) (by kernel_rfl) (by kernel_rfl) ?hQ21 (Or.inl ⟨?hw21, ?hy21⟩) (by assumption) ?_
          case hi21 => (simp only [List.getElem?_toArray, List.getElem?_cons_succ, List.getElem?_cons_zero]; rfl)
          case hQ21 => exact fun _ _ _ h => h
          case hw21 => rfl
          case hy21 => (intro w' hSw; (try dsimp only at hSw); go_simp; all_goals with_reducible rfl)
          try simp only [Act.put, List.setIfInBounds_toArray, List.set_cons_zero, List.set_cons_succ]
          refine' wpAnyH_take (i := 22) ?hi22 (by kernel_rfl) (by kernel_rfl) (by kernel_rfl) ?hQ22 (Or.inl ⟨?hw22, ?hy22⟩) (by assumption) ?_
          case hi22 => (simp only [List.getElem?_toArray, List.getElem?_cons_succ, List.getElem?_cons_zero]; rfl)
          case hQ22 => exact fun _ _ _ h => h
          case hw22 => rfl
          case hy22 => (intro w' hSw; (try dsimp only at hSw); go_simp; all_goals with_reducible rfl)
          try simp only [Act.put, List.setIfInBounds_toArray, List.set_cons_zero, List.set_cons_succ]
          refine' wpAnyH_take (i := 23) ?hi23 (by kernel_rfl) (by kernel_rfl) (by kernel_rfl) ?hQ23 (Or.inl ⟨?hw23, ?hy23⟩) (by assumption) ?_
          case hi23 => (simp only [List.getElem?_toArray, List.getElem?_cons_succ, List.getElem?_cons_zero]; rfl)
          case hQ23 => exact fun _ _ _ h => h
          case hw23 => rfl
          case hy23 => (intro w' hSw; (try dsimp only at hSw); go_simp; all_goals with_reducible rfl)
          try simp only [Act.put, List.setIfInBounds_toArray, List.set_cons_zero, List.set_cons_succ]
          refine' wpAnyH_take (i := 24) ?hi24 (by kernel_rfl) (by kernel_rfl) (by kernel_rfl) ?hQ24 (Or.inl ⟨?hw24, ?hy24⟩) (by assumption) ?_
          case hi24 => (simp only [List.getElem?_toArray, List.getElem?_cons_succ, List.getElem?_cons_zero]; rfl)
          case hQ24 => exact fun _ _ _ h => h
          case hw24 => rfl
          case hy24 => (intro w' hSw; (try dsimp only at hSw); go_simp; all_goals with_reducible rfl)
          try simp only [Act.put, List.setIfInBounds_toArray, List.set_cons_zero, List.set_cons_succ]
          refine' wpAnyH_take (i := 25) ?hi25 (by kernel_rfl) (by kernel_rfl) (by kernel_rfl) ?hQ25 (Or.inl ⟨?hw25, ?hy25⟩) (by assumption) ?_
          case hi25 => (simp only [List.getElem?_toArray, List.getElem?_cons_succ, List.getElem?_cons_zero]; rfl)
          case hQ25 => exact fun _ _ _ h => h
          case hw25 => rfl
          case hy25 => (intro w' hSw; (try dsimp only at hSw); go_simp; all_goals with_reducible rfl)
          try simp only [Act.put, List.setIfInBounds_toArray, List.set_cons_zero, List.set_cons_succ]
          refine wpAnyH_ready (rs := [26]) (by kernel_rfl) (by simp) ?_
          refine AllReadyH.cons rfl (fun K hK => ?_) AllReadyH.nil
          go_simp
          (go_at_call 13; refine (pick_any cut (mk.text.size + 1) _ hcI (by omega) (by omega)).mono ?_; rintro e wq ⟨k, hk, rfl, rfl⟩; have hkT := hcut k hk; have sK : IntKind.i64.wrap (((T.size - 1 : Nat) : Int) - (k : Int)) = ((T.size - 1 - k : Nat) : Int) := by rw [show ((T.size - 1 : Nat) : Int) - (k : Int) = ((T.size - 1 - k : Nat) : Int) by omega]; exact IntWalk.i64_in _ (by omega))
          try go_wp2_with fail
          refine hK.out _ _ ?_ (fun hH => ?_)
          · assumption
          clear hK K
          try simp only [Act.put, List.setIfInBounds_toArray, List.set_cons_zero, List.set_cons_succ]
          have iK : ((T.size - 1 - k : Nat) : Int) ≤ (T.size : Int) := by omega
          refine' wpAnyH_take (i := 27) ?hi27 (by kernel_rfl) (by kernel_rfl) (by kernel_rfl) ?hQ27 (Or.inl ⟨?hw27, ?hy27⟩) (by assumption) ?_
          case hi27 => (simp only [List.getElem?_toArray, List.getElem?_cons_succ, List.getElem?_cons_zero]; rfl)
          case hQ27 => exact fun _ _ _ h => h
          case hw27 => rfl
          case hy27 => (intro w' hSw; (try dsimp only at hSw); go_simp; all_goals with_reducible rfl)
          try simp only [Act.put, List.setIfInBounds_toArray, List.set_cons_zero, List.set_cons_succ]
          refine' wpAnyH_take (i := 28) ?hi28 (by kernel_rfl) (by kernel_rfl) (by kernel_rfl) ?hQ28 (Or.inl ⟨?hw28, ?hy28⟩) (by assumption) ?_
          case hi28 => (simp only [List.getElem?_toArray, List.getElem?_cons_succ, List.getElem?_cons_zero]; rfl)
          case hQ28 => exact fun _ _ _ h => h
          case hw28 => rfl
          case hy28 => (intro w' hSw; (try dsimp only at hSw); go_simp; all_goals with_reducible rfl)
          try simp only [Act.put, List.setIfInBounds_toArray, List.set_cons_zero, List.set_cons_succ]
          have hYd : (T.extract 0 (T.size - 1 - k)).data.toList = (textU l).take ((textU l).length - 1 - k) := by rw [cut_data _ _ (by omega), HT.out, HTL.out]
          have hYz : (T.extract 0 (T.size - 1 - k)).size ≤ 100000000 := by rw [Lib.size_eq, hYd, List.length_take]; have := HTL.out; omega
          obtain ⟨j, hj, hpj⟩ := uni_cut (by rw [← HL.out]; exact HZ.out) HMK.out (c := k) (by omega)
          rw [← HL.out, ← hYd] at hpj
          have tj : decide (0 < j) = true := decide_eq_true hj
          have tj2 : decide ((0 : Int) < (j : Int)) = true := decide_eq_true (by omega)
          generalize T.extract 0 (T.size - 1 - k) = Y at hYd hYz hpj ⊢
          have HPJ := Lib.hid hpj
          clear hpj hYd
          refine wpAnyH_ready (rs := [29]) (by kernel_rfl) (by simp) ?_
          refine AllReadyH.cons rfl (fun K hK => ?_) AllReadyH.nil
          go_simp
          (go_at_call 11; refine (uniparse_any Y _ hYz m (hg.never (hw.trans (And.left (by assumption))))).mono ?_; rw [HPJ.out]; rintro e wq ⟨rq, rfl, hcq, hrq⟩; have hS2 := ukeep (by assumption) hcq)
          try go_wp2_with fail
          refine hK.out _ _ ?_ (fun hH => ?_)
          · assumption
          clear hK K
          try simp only [Act.put, List.setIfInBounds_toArray, List.set_cons_zero, List.set_cons_succ]
          refine' wpAnyH_take (i := 30) ?hi30 (by kernel_rfl) (by kernel_rfl) (by kernel_rfl) ?hQ30 (Or.inl ⟨?hw30, ?hy30⟩) (by assumption) ?_
          case hi30 => (simp only [List.getElem?_toArray, List.getElem?_cons_succ, List.getElem?_cons_zero]; rfl)
          case hQ30 => exact fun _ _ _ h => h
          case hw30 => rfl
          case hy30 => (intro w' hSw; (try dsimp only at hSw); go_simp; all_goals with_reducible rfl)
          try simp only [Act.put, List.setIfInBounds_toArray, List.set_cons_zero, List.set_cons_succ]
          refine' wpAnyH_take (i := 31) ?hi31 (by kernel_rfl) (by kernel_rfl) (by kernel_rfl) ?hQ31 (Or.inl ⟨?hw31, ?hy31⟩) (by assumption) ?_
          case hi31 => (simp only [List.getElem?_toArray, List.getElem?_cons_succ, List.getElem?_cons_zero]; rfl)
          case hQ31 => exact fun _ _ _ h => h
          case hw31 => rfl
          case hy31 => (intro w' hSw; (try dsimp only at hSw); go_simp; all_goals with_reducible rfl)
          try simp only [Act.put, List.setIfInBounds_toArray, List.set_cons_zero, List.set_cons_succ]
          refine' wpAnyH_take (i := 32) ?hi32 (by kernel_rfl) (by kernel_rfl) (by kernel_rfl) ?hQ32 (Or.inl ⟨?hw32, ?hy32⟩) (by assumption) ?_
          case hi32 => (simp only [List.getElem?_toArray, List.getElem?_cons_succ, List.getElem?_cons_zero]; rfl)
          case hQ32 => exact fun _ _ _ h => h
          case hw32 => rfl
          case hy32 => (intro w' hSw; (try dsimp only at hSw); go_simp; all_goals with_reducible rfl)
          try simp only [Act.put, List.setIfInBounds_toArray, List.set_cons_zero, List.set_cons_succ]
          refine' wpAnyH_take (i := 33) ?hi33 (by kernel_rfl) (by kernel_rfl) (by kernel_rfl) ?hQ33 (Or.inl ⟨?hw33, ?hy33⟩) (by assumption) ?_
          case hi33 => (simp only [List.getElem?_toArray, List.getElem?_cons_succ, List.getElem?_cons_zero]; rfl)
          case hQ33 => exact fun _ _ _ h => h
          case hw33 => rfl
          case hy33 => (intro w' hSw; (try dsimp only at hSw); go_simp; all_goals with_reducible rfl)
          try simp only [Act.put, List.setIfInBounds_toArray, List.set_cons_zero, List.set_cons_succ]
          refine' wpAnyH_take (i := 34) ?hi34 (by kernel_rfl) (by kernel_rfl) (by kernel_rfl) ?hQ34 (Or.inl ⟨?hw34, ?hy34⟩) (by assumption) ?_
          case hi34 => (simp only [List.getElem?_toArray, List.getElem?_cons_succ, List.getElem?_cons_zero]; rfl)
          case hQ34 => exact fun _ _ _ h => h
          case hw34 => rfl
          case hy34 => (intro w' hSw; (try dsimp only at hSw); go_simp; all_goals with_reducible rfl)
          try simp only [Act.put, List.setIfInBounds_toArray, List.set_cons_zero, List.set_cons_succ]
          refine' wpAnyH_take (i := 35) ?hi35 (by kernel_rfl) (by kernel_rfl) (by kernel_rfl) ?hQ35 (Or.inl ⟨?hw35, ?hy35⟩) (by assumption) ?_
          case hi35 => (simp only [List.getElem?_toArray, List.getElem?_cons_succ, List.getElem?_cons_zero]; rfl)
          case hQ35 => exact fun _ _ _ h => h
          case hw35 => rfl
          case hy35 => (intro w' hSw; (try dsimp only at hSw); go_simp; all_goals with_reducible rfl)
          try simp only [Act.put, List.setIfInBounds_toArray, List.set_cons_zero, List.set_cons_succ]
          refine' wpAnyH_take (i := 36) ?hi36 (by kernel_rfl) (by kernel_rfl) (by kernel_rfl) ?hQ36 (Or.inl ⟨?hw36, ?hy36⟩) (by assumption) ?_
          case hi36 => (simp only [List.getElem?_toArray, List.getElem?_cons_succ, List.getElem?_cons_zero]; rfl)
          case hQ36 => exact fun _ _ _ h => h
          case hw36 => rfl
          case hy36 => (intro w' hSw; (try dsimp only at hSw); go_simp; all_goals with_reducible rfl)
          try simp only [Act.put, List.setIfInBounds_toArray, List.set_cons_zero, List.set_cons_succ]
          refine wpAnyH_done (by kernel_rfl) ?_ _
          rename (Chg Never wx _ ∧ _) => hF
          have hwF := hw.trans hF.1
          clear hF sT sL sQ sX iL iQ iK c2 d1 hrq
          rw [errV_pos (by decide)]
          have hE := error_any 5 5 _ (hwF.cellNever hgt)
          rw [errV_pos (by decide)] at hE
          go_wp2_with fail
          refine hE.mono ?_
          rintro e w8 ⟨rfl, hc8⟩
          rw [show ((5 : Int) == 5) = true from rfl]
          clear hE
          go_wp2_with fail
          go_ret
          exact ⟨rfl, hwF.trans hc8⟩
      · rw [errV_pos zp]
        clear zp
        go_wp2_with fail
        go_ret
        exact ⟨rfl, hw⟩
    · rw [errV_pos hk]
      clear hpg hk hr2
      go_wp2_with fail
      refine (uniprint_any l _ _ (h.never hw2)).mono ?_
      rintro e w5 ⟨rfl, hc5⟩
      have hw := hw2.trans hc5
      clear hc5
      by_cases zp : (hunksFault l).2 = 0
      · have HB := Lib.hid (print_parse zp)
        have HT : Hid ((uniR l).data.toList = textU l) := by unfold Hid uniR; rw [if_pos zp, toB_data]
        have hUz := (hunks_ok zp).2.2
        have HTL : Hid ((uniR l).size = (textU l).length) := by rw [Hid, Lib.size_eq, HT.out]
        have hTz : (uniR l).size ≤ 400000 := by rw [HTL.out]; omega
        have hpp := uniparse_any (uniR l) _ (by omega) m (hg.never hw)
        rw [HT.out, HB.out] at hpp
        have HPP := Lib.hid hpp
        have HZ := Lib.hid zp
        rw [zp, errV_zero]
        generalize uniR l = T at hTz HPP HT HTL ⊢
        clear zp hpp hUz
        go_wp2_with fail
        refine HPP.out.mono ?_
        rintro e w6 ⟨r6, rfl, hc6, hr6⟩
        have hw := hw.trans hc6
        simp only at hr6 ⊢
        rw [errV_zero]
        clear HPP
        obtain ⟨ea, ec, rfl, -, -, -⟩ := rdv_slice hr6
        go_wp2_with fail
        refine (hunks_eq_any l l _ _ _ hr6 (h.never hw)).mono ?_
        rintro e w7 ⟨rfl, hc7⟩
        have hw := hw.trans hc7
        rw [decide_eq_true rfl]
        clear hr6 hc6 hc7
        by_cases hne : l = []
        · have t0 : ((T.size : Int) == 0) = true := by rw [HTL.out, hne]; rfl
          clear hne
          go_wp2_with fail
          go_ret
          exact ⟨rfl, hw⟩
        · obtain ⟨init, h0, ms, mk, hl, hmk⟩ := uni_last HZ.out hne
          have hlen : l.length = init.length + 1 := by rw [hl, List.length_append]; rfl
          have hlq : h0.marks.length = ms.length + 1 := by rw [hmk, List.length_append]; rfl
          have hx0 : l[init.length]? = some h0 := by rw [hl]; simp
          have hy0 : h0.marks[ms.length]? = some mk := by rw [hmk]; simp
          obtain ⟨b, off, mv, rfl, -, -, -, -, c2, hmv⟩ := elems_hunk h3 hx0
          obtain ⟨ma, mc, rfl, -, hmcz, hme⟩ := rdv_slice hmv
          obtain ⟨mb, moff, rfl, -, -, -, d1, -, -, hys⟩ := elems_mark hme hy0
          have c2 := hw.cellNever c2
          have d1 := hw.cellNever d1
          have HL := Lib.hid hl
          have HMK := Lib.hid hmk
          have hcut : ∀ k : Nat, k < mk.text.size + 1 → k + 1 ≤ T.size := fun k hk => by
            have hm := textU_last hl hmk
            rw [HTL.out]; omega
          have h1T : 1 ≤ T.size := hcut 0 (by omega)
          have t0 : ((T.size : Int) == 0) = false := by rw [beq_eq_false_iff_ne]; omega
          have hl60 := hunks_sixty HZ.out
          have hmq : ms.length ≤ 120 := by have := scriptFault_len (hunks_each HZ.out h0 (by rw [hl]; simp)).1; omega
          obtain ⟨n1, hn1⟩ : ∃ n1, init.length = n1 := ⟨_, rfl⟩
          obtain ⟨q1, hq1⟩ : ∃ q1, ms.length = q1 := ⟨_, rfl⟩
          rw [hn1] at hlen c2
          rw [hq1] at hlq d1 hmq
          have hyz : mk.text.size ≤ 1000000 := by have := hcut (mk.text.size) (by omega); omega
          have sT : IntKind.i64.wrap ((T.size : Int) - 1) = ((T.size - 1 : Nat) : Int) := by rw [show (T.size : Int) - 1 = ((T.size - 1 : Nat) : Int) by omega]; exact IntWalk.i64_in _ (by omega)
          have sL : IntKind.i64.wrap ((l.length : Int) - 1) = (n1 : Int) := by rw [show (l.length : Int) - 1 = (n1 : Int) by omega]; exact IntWalk.i64_in _ (by omega)
          have sQ : IntKind.i64.wrap ((h0.marks.length : Int) - 1) = (q1 : Int) := by rw [show (h0.marks.length : Int) - 1 = (q1 : Int) by omega]; exact IntWalk.i64_in _ (by omega)
          have sX : IntKind.i64.wrap ((mk.text.size : Int) + 1) = ((mk.text.size + 1 : Nat) : Int) := by rw [show (mk.text.size : Int) + 1 = ((mk.text.size + 1 : Nat) : Int) by omega]; exact IntWalk.i64_in _ (by omega)
          have iL : (n1 : Int) < (l.length : Int) := by omega
          have iQ : (q1 : Int) < (h0.marks.length : Int) := by omega
          have HN := Lib.hid hlen
          have HQ := Lib.hid hlq
          clear hl hmk hx0 hy0 hmv hme hlen hlq hne hn1 hq1
          go_wp2_with fail
          rename World => wx
          refine wp_region_held_drew (S := fun w' => Chg Never wx w' ∧ w'.cell? ⟨b, off + n1 * 3 + 2, none⟩ = some (.slice (some ⟨mb, moff, none⟩) h0.marks.length mc) ∧ w'.cell? ⟨mb, moff + q1 * 2 + 1, none⟩ = some (.string mk.text)) (by kernel_rfl) ⟨(Chg.refl Never wx).drew, c2, d1⟩ (fun hH => ?_)
          refine' wpAnyH_take (i := 0) ?hi0 (by kernel_rfl) (by kernel_rfl) (by kernel_rfl) ?hQ0 (Or.inl ⟨?hw0, ?hy0⟩) (by assumption) ?_
          case hi0 => (simp only [List.getElem?_toArray, List.getElem?_cons_zero]; rfl)
          case hQ0 => exact fun _ _ _ h => h
          case hw0 => rfl
          case hy0 => (intro w' hSw; (try dsimp only at hSw); go_simp; all_goals with_reducible rfl)
          try simp only [Act.put, List.setIfInBounds_toArray, List.set_cons_zero, List.set_cons_succ]
          refine' wpAnyH_take (i := 1) ?hi1 (by kernel_rfl) (by kernel_rfl) (by kernel_rfl) ?hQ1 (Or.inl ⟨?hw1, ?hy1⟩) (by assumption) ?_
          case hi1 => (simp only [List.getElem?_toArray, List.getElem?_cons_succ, List.getElem?_cons_zero]; rfl)
          case hQ1 => exact fun _ _ _ h => h
          case hw1 => rfl
          case hy1 => (intro w' hSw; (try dsimp only at hSw); go_simp; all_goals with_reducible rfl)
          try simp only [Act.put, List.setIfInBounds_toArray, List.set_cons_zero, List.set_cons_succ]
          refine' wpAnyH_take (i := 2) ?hi2 (by kernel_rfl) (by kernel_rfl) (by kernel_rfl) ?hQ2 (Or.inl ⟨?hw2, ?hy2⟩) (by assumption) ?_
          case hi2 => (simp only [List.getElem?_toArray, List.getElem?_cons_succ, List.getElem?_cons_zero]; rfl)
          case hQ2 => exact fun _ _ _ h => h
          case hw2 => rfl
          case hy2 => (intro w' hSw; (try dsimp only at hSw); go_simp; all_goals with_reducible rfl)
          try simp only [Act.put, List.setIfInBounds_toArray, List.set_cons_zero, List.set_cons_succ]
          refine' wpAnyH_take (i := 3) ?hi3 (by kernel_rfl) (by kernel_rfl) (by kernel_rfl) ?hQ3 (Or.inl ⟨?hw3, ?hy3⟩) (by assumption) ?_
          case hi3 => (simp only [List.getElem?_toArray, List.getElem?_cons_succ, List.getElem?_cons_zero]; rfl)
          case hQ3 => exact fun _ _ _ h => h
          case hw3 => rfl
          case hy3 => (intro w' hSw; (try dsimp only at hSw); go_simp; all_goals with_reducible rfl)
          try simp only [Act.put, List.setIfInBounds_toArray, List.set_cons_zero, List.set_cons_succ]
          refine' wpAnyH_take (i := 4) ?hi4 (by kernel_rfl) (by kernel_rfl) (by kernel_rfl) ?hQ4 (Or.inl ⟨?hw4, ?hy4⟩) (by assumption) ?_
          case hi4 => (simp only [List.getElem?_toArray, List.getElem?_cons_succ, List.getElem?_cons_zero]; rfl)
          case hQ4 => exact fun _ _ _ h => h
          case hw4 => rfl
          case hy4 => (intro w' hSw; (try dsimp only at hSw); go_simp; all_goals with_reducible rfl)
          try simp only [Act.put, List.setIfInBounds_toArray, List.set_cons_zero, List.set_cons_succ]
          refine' wpAnyH_take (i := 5) ?hi5 (by kernel_rfl) (by kernel_rfl) (by kernel_rfl) ?hQ5 (Or.inl ⟨?hw5, ?hy5⟩) (by assumption) ?_
          case hi5 => (simp only [List.getElem?_toArray, List.getElem?_cons_succ, List.getElem?_cons_zero]; rfl)
          case hQ5 => exact fun _ _ _ h => h
          case hw5 => rfl
          case hy5 => (intro w' hSw; (try dsimp only at hSw); go_simp; all_goals with_reducible rfl)
          try simp only [Act.put, List.setIfInBounds_toArray, List.set_cons_zero, List.set_cons_succ]
          refine' wpAnyH_take (i := 6) ?hi6 (by kernel_rfl) (by kernel_rfl) (by kernel_rfl) ?hQ6 (Or.inl ⟨?hw6, ?hy6⟩) (by assumption) ?_
          case hi6 => (simp only [List.getElem?_toArray, List.getElem?_cons_succ, List.getElem?_cons_zero]; rfl)
          case hQ6 => exact fun _ _ _ h => h
          case hw6 => rfl
          case hy6 => (intro w' hSw; (try dsimp only at hSw); go_simp; all_goals with_reducible rfl)
          try simp only [Act.put, List.setIfInBounds_toArray, List.set_cons_zero, List.set_cons_succ]
          refine' wpAnyH_take (i := 7) ?hi7 (by kernel_rfl) (by kernel_rfl) (by kernel_rfl) ?hQ7 (Or.inl ⟨?hw7, ?hy7⟩) (by assumption) ?_
          case hi7 => (simp only [List.getElem?_toArray, List.getElem?_cons_succ, List.getElem?_cons_zero]; rfl)
          case hQ7 => exact fun _ _ _ h => h
          case hw7 => rfl
          case hy7 => (intro w' hSw; (try dsimp only at hSw); go_simp; all_goals with_reducible rfl)
          try simp only [Act.put, List.setIfInBounds_toArray, List.set_cons_zero, List.set_cons_succ]
          refine' wpAnyH_take (i := 8) ?hi8 (by kernel_rfl) (by kernel_rfl) (by kernel_rfl) ?hQ8 (Or.inl ⟨?hw8, ?hy8⟩) (by assumption) ?_
          case hi8 => (simp only [List.getElem?_toArray, List.getElem?_cons_succ, List.getElem?_cons_zero]; rfl)
          case hQ8 => exact fun _ _ _ h => h
          case hw8 => rfl
          case hy8 => (intro w' hSw; (try dsimp only at hSw); go_simp; all_goals with_reducible rfl)
          try simp only [Act.put, List.setIfInBounds_toArray, List.set_cons_zero, List.set_cons_succ]
          refine' wpAnyH_take (i := 9) ?hi9 (by kernel_rfl) (by kernel_rfl) (by kernel_rfl) ?hQ9 (Or.inl ⟨?hw9, ?hy9⟩) (by assumption) ?_
          case hi9 => (simp only [List.getElem?_toArray, List.getElem?_cons_succ, List.getElem?_cons_zero]; rfl)
          case hQ9 => exact fun _ _ _ h => h
          case hw9 => rfl
          case hy9 => (intro w' hSw; (try dsimp only at hSw); go_simp; all_goals with_reducible rfl)
          try simp only [Act.put, List.setIfInBounds_toArray, List.set_cons_zero, List.set_cons_succ]
          refine' wpAnyH_take (i := 10) ?hi10 (by kernel_rfl) (by kernel_rfl) (by kernel_rfl) ?hQ10 (Or.inl ⟨?hw10, ?hy10⟩) (by assumption) ?_
          case hi10 => (simp only [List.getElem?_toArray, List.getElem?_cons_succ, List.getElem?_cons_zero]; rfl)
          case hQ10 => exact fun _ _ _ h => h
          case hw10 => rfl
          case hy10 => (intro w' hSw; (try dsimp only at hSw); go_simp; all_goals with_reducible rfl)
          try simp only [Act.put, List.setIfInBounds_toArray, List.set_cons_zero, List.set_cons_succ]
          refine' wpAnyH_take (i := 11) ?hi11 (by kernel_rfl) (by kernel_rfl) (by kernel_rfl) ?hQ11 (Or.inl ⟨?hw11, ?hy11⟩) (by assumption) ?_
          case hi11 => (simp only [List.getElem?_toArray, List.getElem?_cons_succ, List.getElem?_cons_zero]; rfl)
          case hQ11 => exact fun _ _ _ h => h
          case hw11 => rfl
          case hy11 => (intro w' hSw; (try dsimp only at hSw); go_simp; all_goals with_reducible rfl)
          try simp only [Act.put, List.setIfInBounds_toArray, List.set_cons_zero, List.set_cons_succ]
          refine' wpAnyH_take (i := 12) ?hi12 (by kernel_rfl) (by kernel_rfl) (by kernel_rfl) ?hQ12 (Or.inl ⟨?hw12, ?hy12⟩) (by assumption) ?_
          case hi12 => (simp only [List.getElem?_toArray, List.getElem?_cons_succ, List.getElem?_cons_zero]; rfl)
          case hQ12 => exact fun _ _ _ h => h
          case hw12 => rfl
          case hy12 => (intro w' hSw; (try dsimp only at hSw); go_simp; all_goals with_reducible rfl)
          try simp only [Act.put, List.setIfInBounds_toArray, List.set_cons_zero, List.set_cons_succ]
          refine' wpAnyH_take (i := 13) ?hi13 (by kernel_rfl) (by kernel_rfl) (by kernel_rfl) ?hQ13 (Or.inl ⟨?hw13, ?hy13⟩) (by assumption) ?_
          case hi13 => (simp only [List.getElem?_toArray, List.getElem?_cons_succ, List.getElem?_cons_zero]; rfl)
          case hQ13 => exact fun _ _ _ h => h
          case hw13 => rfl
          case hy13 => (intro w' hSw; (try dsimp only at hSw); go_simp; all_goals with_reducible rfl)
          try simp only [Act.put, List.setIfInBounds_toArray, List.set_cons_zero, List.set_cons_succ]
          refine' wpAnyH_take (i := 14) ?hi14 (by kernel_rfl) (by kernel_rfl) (by kernel_rfl) ?hQ14 (Or.inl ⟨?hw14, ?hy14⟩) (by assumption) ?_
          case hi14 => (simp only [List.getElem?_toArray, List.getElem?_cons_succ, List.getElem?_cons_zero]; rfl)
          case hQ14 => exact fun _ _ _ h => h
          case hw14 => rfl
          case hy14 => (intro w' hSw; (try dsimp only at hSw); go_simp; all_goals with_reducible rfl)
          try simp only [Act.put, List.setIfInBounds_toArray, List.set_cons_zero, List.set_cons_succ]
          refine' wpAnyH_take (i := 15) ?hi15 (by kernel_rfl) (by kernel_rfl) (by kernel_rfl) ?hQ15 (Or.inl ⟨?hw15, ?hy15⟩) (by assumption) ?_
          case hi15 => (simp only [List.getElem?_toArray, List.getElem?_cons_succ, List.getElem?_cons_zero]; rfl)
          case hQ15 => exact fun _ _ _ h => h
          case hw15 => rfl
          case hy15 => (intro w' hSw; (try dsimp only at hSw); go_simp; all_goals with_reducible rfl)
          try simp only [Act.put, List.setIfInBounds_toArray, List.set_cons_zero, List.set_cons_succ]
          refine' wpAnyH_take (i := 16) ?hi16 (by kernel_rfl) (by kernel_rfl) (by kernel_rfl) ?hQ16 (Or.inl ⟨?hw16, ?hy16⟩) (by assumption) ?_
          case hi16 => (simp only [List.getElem?_toArray, List.getElem?_cons_succ, List.getElem?_cons_zero]; rfl)
          case hQ16 => exact fun _ _ _ h => h
          case hw16 => rfl
          case hy16 => (intro w' hSw; (try dsimp only at hSw); go_simp; all_goals with_reducible rfl)
          try simp only [Act.put, List.setIfInBounds_toArray, List.set_cons_zero, List.set_cons_succ]
          refine' wpAnyH_take (i := 17) ?hi17 (by kernel_rfl) (by kernel_rfl) (by kernel_rfl) ?hQ17 (Or.inl ⟨?hw17, ?hy17⟩) (by assumption) ?_
          case hi17 => (simp only [List.getElem?_toArray, List.getElem?_cons_succ, List.getElem?_cons_zero]; rfl)
          case hQ17 => exact fun _ _ _ h => h
          case hw17 => rfl
          case hy17 => (intro w' hSw; (try dsimp only at hSw); go_simp; all_goals with_reducible rfl)
          try simp only [Act.put, List.setIfInBounds_toArray, List.set_cons_zero, List.set_cons_succ]
          refine' wpAnyH_take (i := 18) ?hi18 (by kernel_rfl) (by kernel_rfl) (by kernel_rfl) ?hQ18 (Or.inl ⟨?hw18, ?hy18⟩) (by assumption) ?_
          case hi18 => (simp only [List.getElem?_toArray, List.getElem?_cons_succ, List.getElem?_cons_zero]; rfl)
          case hQ18 => exact fun _ _ _ h => h
          case hw18 => rfl
          case hy18 => (intro w' hSw; (try dsimp only at hSw); go_simp; all_goals with_reducible rfl)
          try simp only [Act.put, List.setIfInBounds_toArray, List.set_cons_zero, List.set_cons_succ]
          refine' wpAnyH_take (i := 19) ?hi19 (by kernel_rfl) (by kernel_rfl) (by kernel_rfl) ?hQ19 (Or.inl ⟨?hw19, ?hy19⟩) (by assumption) ?_
          case hi19 => (simp only [List.getElem?_toArray, List.getElem?_cons_succ, List.getElem?_cons_zero]; rfl)
          case hQ19 => exact fun _ _ _ h => h
          case hw19 => rfl
          case hy19 => (intro w' hSw; (try dsimp only at hSw); go_simp; all_goals with_reducible rfl)
          try simp only [Act.put, List.setIfInBounds_toArray, List.set_cons_zero, List.set_cons_succ]
          refine' wpAnyH_take (i := 20) ?hi20 (by kernel_rfl) (by kernel_rfl) (by kernel_rfl) ?hQ20 (Or.inl ⟨?hw20, ?hy20⟩) (by assumption) ?_
          case hi20 => (simp only [List.getElem?_toArray, List.getElem?_cons_succ, List.getElem?_cons_zero]; rfl)
          case hQ20 => exact fun _ _ _ h => h
          case hw20 => rfl
          case hy20 => (intro w' hSw; (try dsimp only at hSw); go_simp; all_goals with_reducible rfl)
          try simp only [Act.put, List.setIfInBounds_toArray, List.set_cons_zero, List.set_cons_succ]
          refine' wpAnyH_take (i := 21) ?hi21 (by kernel_rfl) (by kernel_rfl) (by kernel_rfl) ?hQ21 (Or.inl ⟨?hw21, ?hy21⟩) (by assumption) ?_
          case hi21 => (simp only [List.getElem?_toArray, List.getElem?_cons_succ, List.getElem?_cons_zero]; rfl)
          case hQ21 => exact fun _ _ _ h => h
          case hw21 => rfl
          case hy21 => (intro w' hSw; (try dsimp only at hSw); go_simp; all_goals with_reducible rfl)
          try simp only [Act.put, List.setIfInBounds_toArray, List.set_cons_zero, List.set_cons_succ]
          refine' wpAnyH_take (i := 22) ?hi22 (by kernel_rfl) (by kernel_rfl) (by kernel_rfl) ?hQ22 (Or.inl ⟨?hw22, ?hy22⟩) (by assumption) ?_
          case hi22 => (simp only [List.getElem?_toArray, List.getElem?_cons_succ, List.getElem?_cons_zero]; rfl)
          case hQ22 => exact fun _ _ _ h => h
          case hw22 => rfl
          case hy22 => (intro w' hSw; (try dsimp only at hSw); go_simp; all_goals with_reducible rfl)
          try simp only [Act.put, List.setIfInBounds_toArray, List.set_cons_zero, List.set_cons_succ]
          refine' wpAnyH_take (i := 23) ?hi23 (by kernel_rfl) (by kernel_rfl) (by kernel_rfl) ?hQ23 (Or.inl ⟨?hw23, ?hy23⟩) (by assumption) ?_
          case hi23 => (simp only [List.getElem?_toArray, List.getElem?_cons_succ, List.getElem?_cons_zero]; rfl)
          case hQ23 => exact fun _ _ _ h => h
          case hw23 => rfl
          case hy23 => (intro w' hSw; (try dsimp only at hSw); go_simp; all_goals with_reducible rfl)
          try simp only [Act.put, List.setIfInBounds_toArray, List.set_cons_zero, List.set_cons_succ]
          refine' wpAnyH_take (i := 24) ?hi24 (by kernel_rfl) (by kernel_rfl) (by kernel_rfl) ?hQ24 (Or.inl ⟨?hw24, ?hy24⟩) (by assumption) ?_
          case hi24 => (simp only [List.getElem?_toArray, List.getElem?_cons_succ, List.getElem?_cons_zero]; rfl)
          case hQ24 => exact fun _ _ _ h => h
          case hw24 => rfl
          case hy24 => (intro w' hSw; (try dsimp only at hSw); go_simp; all_goals with_reducible rfl)
          try simp only [Act.put, List.setIfInBounds_toArray, List.set_cons_zero, List.set_cons_succ]
          refine' wpAnyH_take (i := 25) ?hi25 (by kernel_rfl) (by kernel_rfl) (by kernel_rfl) ?hQ25 (Or.inl ⟨?hw25, ?hy25⟩) (by assumption) ?_
          case hi25 => (simp only [List.getElem?_toArray, List.getElem?_cons_succ, List.getElem?_cons_zero]; rfl)
          case hQ25 => exact fun _ _ _ h => h
          case hw25 => rfl
          case hy25 => (intro w' hSw; (try dsimp only at hSw); go_simp; all_goals with_reducible rfl)
          try simp only [Act.put, List.setIfInBounds_toArray, List.set_cons_zero, List.set_cons_succ]
          refine wpAnyH_ready (rs := [26]) (by kernel_rfl) (by simp) ?_
          refine AllReadyH.cons rfl (fun K hK => ?_) AllReadyH.nil
          go_simp
          (go_at_call 13; refine (pick_any cut (mk.text.size + 1) _ hcI (by omega) (by omega)).mono ?_; rintro e wq ⟨k, hk, rfl, rfl⟩; have hkT := hcut k hk; have sK : IntKind.i64.wrap (((T.size - 1 : Nat) : Int) - (k : Int)) = ((T.size - 1 - k : Nat) : Int) := by rw [show ((T.size - 1 : Nat) : Int) - (k : Int) = ((T.size - 1 - k : Nat) : Int) by omega]; exact IntWalk.i64_in _ (by omega))
          try go_wp2_with fail
          refine hK.out _ _ ?_ (fun hH => ?_)
          · assumption
          clear hK K
          try simp only [Act.put, List.setIfInBounds_toArray, List.set_cons_zero, List.set_cons_succ]
          have iK : ((T.size - 1 - k : Nat) : Int) ≤ (T.size : Int) := by omega
          refine' wpAnyH_take (i := 27) ?hi27 (by kernel_rfl) (by kernel_rfl) (by kernel_rfl) ?hQ27 (Or.inl ⟨?hw27, ?hy27⟩) (by assumption) ?_
          case hi27 => (simp only [List.getElem?_toArray, List.getElem?_cons_succ, List.getElem?_cons_zero]; rfl)
          case hQ27 => exact fun _ _ _ h => h
          case hw27 => rfl
          case hy27 => (intro w' hSw; (try dsimp only at hSw); go_simp; all_goals with_reducible rfl)
          try simp only [Act.put, List.setIfInBounds_toArray, List.set_cons_zero, List.set_cons_succ]
          refine' wpAnyH_take (i := 28) ?hi28 (by kernel_rfl) (by kernel_rfl) (by kernel_rfl) ?hQ28 (Or.inl ⟨?hw28, ?hy28⟩) (by assumption) ?_
          case hi28 => (simp only [List.getElem?_toArray, List.getElem?_cons_succ, List.getElem?_cons_zero]; rfl)
          case hQ28 => exact fun _ _ _ h => h
          case hw28 => rfl
          case hy28 => (intro w' hSw; (try dsimp only at hSw); go_simp; all_goals with_reducible rfl)
          try simp only [Act.put, List.setIfInBounds_toArray, List.set_cons_zero, List.set_cons_succ]
          have hYd : (T.extract 0 (T.size - 1 - k)).data.toList = (textU l).take ((textU l).length - 1 - k) := by rw [cut_data _ _ (by omega), HT.out, HTL.out]
          have hYz : (T.extract 0 (T.size - 1 - k)).size ≤ 100000000 := by rw [Lib.size_eq, hYd, List.length_take]; have := HTL.out; omega
          obtain ⟨j, hj, hpj⟩ := uni_cut (by rw [← HL.out]; exact HZ.out) HMK.out (c := k) (by omega)
          rw [← HL.out, ← hYd] at hpj
          have tj : decide (0 < j) = true := decide_eq_true hj
          have tj2 : decide ((0 : Int) < (j : Int)) = true := decide_eq_true (by omega)
          generalize T.extract 0 (T.size - 1 - k) = Y at hYd hYz hpj ⊢
          have HPJ := Lib.hid hpj
          clear hpj hYd
          refine wpAnyH_ready (rs := [29]) (by kernel_rfl) (by simp) ?_
          refine AllReadyH.cons rfl (fun K hK => ?_) AllReadyH.nil
          go_simp
          (go_at_call 11; refine (uniparse_any Y _ hYz m (hg.never (hw.trans (And.left (by assumption))))).mono ?_; rw [HPJ.out]; rintro e wq ⟨rq, rfl, hcq, hrq⟩; have hS2 := ukeep (by assumption) hcq)
          try go_wp2_with fail
          refine hK.out _ _ ?_ (fun hH => ?_)
          · assumption
          clear hK K
          try simp only [Act.put, List.setIfInBounds_toArray, List.set_cons_zero, List.set_cons_succ]
          refine' wpAnyH_take (i := 30) ?hi30 (by kernel_rfl) (by kernel_rfl) (by kernel_rfl) ?hQ30 (Or.inl ⟨?hw30, ?hy30⟩) (by assumption) ?_
          case hi30 => (simp only [List.getElem?_toArray, List.getElem?_cons_succ, List.getElem?_cons_zero]; rfl)
          case hQ30 => exact fun _ _ _ h => h
          case hw30 => rfl
          case hy30 => (intro w' hSw; (try dsimp only at hSw); go_simp; all_goals with_reducible rfl)
          try simp only [Act.put, List.setIfInBounds_toArray, List.set_cons_zero, List.set_cons_succ]
          refine' wpAnyH_take (i := 31) ?hi31 (by kernel_rfl) (by kernel_rfl) (by kernel_rfl) ?hQ31 (Or.inl ⟨?hw31, ?hy31⟩) (by assumption) ?_
          case hi31 => (simp only [List.getElem?_toArray, List.getElem?_cons_succ, List.getElem?_cons_zero]; rfl)
          case hQ31 => exact fun _ _ _ h => h
          case hw31 => rfl
          case hy31 => (intro w' hSw; (try dsimp only at hSw); go_simp; all_goals with_reducible rfl)
          try simp only [Act.put, List.setIfInBounds_toArray, List.set_cons_zero, List.set_cons_succ]
          refine' wpAnyH_take (i := 32) ?hi32 (by kernel_rfl) (by kernel_rfl) (by kernel_rfl) ?hQ32 (Or.inl ⟨?hw32, ?hy32⟩) (by assumption) ?_
          case hi32 => (simp only [List.getElem?_toArray, List.getElem?_cons_succ, List.getElem?_cons_zero]; rfl)
          case hQ32 => exact fun _ _ _ h => h
          case hw32 => rfl
          case hy32 => (intro w' hSw; (try dsimp only at hSw); go_simp; all_goals with_reducible rfl)
          try simp only [Act.put, List.setIfInBounds_toArray, List.set_cons_zero, List.set_cons_succ]
          refine' wpAnyH_take (i := 33) ?hi33 (by kernel_rfl) (by kernel_rfl) (by kernel_rfl) ?hQ33 (Or.inl ⟨?hw33, ?hy33⟩) (by assumption) ?_
          case hi33 => (simp only [List.getElem?_toArray, List.getElem?_cons_succ, List.getElem?_cons_zero]; rfl)
          case hQ33 => exact fun _ _ _ h => h
          case hw33 => rfl
          case hy33 => (intro w' hSw; (try dsimp only at hSw); go_simp; all_goals with_reducible rfl)
          try simp only [Act.put, List.setIfInBounds_toArray, List.set_cons_zero, List.set_cons_succ]
          refine' wpAnyH_take (i := 34) ?hi34 (by kernel_rfl) (by kernel_rfl) (by kernel_rfl) ?hQ34 (Or.inl ⟨?hw34, ?hy34⟩) (by assumption) ?_
          case hi34 => (simp only [List.getElem?_toArray, List.getElem?_cons_succ, List.getElem?_cons_zero]; rfl)
          case hQ34 => exact fun _ _ _ h => h
          case hw34 => rfl
          case hy34 => (intro w' hSw; (try dsimp only at hSw); go_simp; all_goals with_reducible rfl)
          try simp only [Act.put, List.setIfInBounds_toArray, List.set_cons_zero, List.set_cons_succ]
          refine' wpAnyH_take (i := 35) ?hi35 (by kernel_rfl) (by kernel_rfl) (by kernel_rfl) ?hQ35 (Or.inl ⟨?hw35, ?hy35⟩) (by assumption) ?_
          case hi35 => (simp only [List.getElem?_toArray, List.getElem?_cons_succ, List.getElem?_cons_zero]; rfl)
          case hQ35 => exact fun _ _ _ h => h
          case hw35 => rfl
          case hy35 => (intro w' hSw; (try dsimp only at hSw); go_simp; all_goals with_reducible rfl)
          try simp only [Act.put, List.setIfInBounds_toArray, List.set_cons_zero, List.set_cons_succ]
          refine' wpAnyH_take (i := 36) ?hi36 (by kernel_rfl) (by kernel_rfl) (by kernel_rfl) ?hQ36 (Or.inl ⟨?hw36, ?hy36⟩) (by assumption) ?_
          case hi36 => (simp only [List.getElem?_toArray, List.getElem?_cons_succ, List.getElem?_cons_zero]; rfl)
          case hQ36 => exact fun _ _ _ h => h
          case hw36 => rfl
          case hy36 => (intro w' hSw; (try dsimp only at hSw); go_simp; all_goals with_reducible rfl)
          try simp only [Act.put, List.setIfInBounds_toArray, List.set_cons_zero, List.set_cons_succ]
          refine wpAnyH_done (by kernel_rfl) ?_ _
          rename (Chg Never wx _ ∧ _) => hF
          have hwF := hw.trans hF.1
          clear hF sT sL sQ sX iL iQ iK c2 d1 hrq
          rw [errV_pos (by decide)]
          have hE := error_any 5 5 _ (hwF.cellNever hgt)
          rw [errV_pos (by decide)] at hE
          go_wp2_with fail
          refine hE.mono ?_
          rintro e w8 ⟨rfl, hc8⟩
          rw [show ((5 : Int) == 5) = true from rfl]
          clear hE
          go_wp2_with fail
          go_ret
          exact ⟨rfl, hwF.trans hc8⟩
      · rw [errV_pos zp]
        clear zp
        go_wp2_with fail
        go_ret
        exact ⟨rfl, hw⟩
end Go.Proofs.YtmojaahkcpgfkaaGreatDoor
