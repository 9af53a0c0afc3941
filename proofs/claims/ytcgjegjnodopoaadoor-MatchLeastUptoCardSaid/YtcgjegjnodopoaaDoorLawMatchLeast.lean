/-
  THE LAW MatchLeast, walked.
-/
import Derived.Test.YtcgjegjnodopoaaDoorMatchD
import Derived.Test.YtcgjegjnodopoaaDoorMany2
import Derived.Test.YtcgjegjnodopoaaDoorAs
import Derived.Deep.Cut
namespace Go.Proofs.YtcgjegjnodopoaaDoor
open Go.RowKit

theorem match_fact : sqFault [[5, 1], [1, 9]] = 0 ∧ matchR [[5, 1], [1, 9]] = [1, 0] := by decide +kernel
theorem full_seen (n : Nat) : Seen n (bitsOf (2 ^ n - 1)) [] := fun k hk => by rw [bits_full]; simp [hk]
def fullBest (c : List (List Int)) : Int := bestS c (bitsOf (2 ^ c.length - 1))
theorem cost_self {c : List (List Int)} (hz : sqFault c = 0) : costR c (matchR c) = (fullBest c, 0) := by
  obtain ⟨hn, hq⟩ := sq_bd hz
  have hl : (matchR c).length = c.length := choose_len hq.ok (full_cnt hn)
  unfold costR
  rw [if_neg (by simp [hz]), if_neg (by simp [hl])]
  have := cost_choose (s := 0) hq.ok (full_cnt hn) (full_seen c.length)
  unfold matchR
  rw [this]
  simp [fullBest]
theorem cost_least {c : List (List Int)} {m : List Int} (hz : sqFault c = 0) (h : (costR c m).2 = 0) : fullBest c ≤ (costR c m).1 := by
  obtain ⟨hn, hq⟩ := sq_bd hz
  unfold costR at h ⊢
  rw [if_neg (by simp [hz])] at h ⊢
  by_cases hl : m.length = c.length
  · rw [if_neg (by simp [hl])] at h ⊢
    cases hc : costGo c.length c m [] 0 with
    | none => rw [hc] at h; cases h
    | some t =>
      have := cost_ge hq.ok (full_cnt hn) hl.symm (full_seen c.length) hc
      show _ ≤ t
      unfold fullBest
      omega
  · rw [if_pos hl] at h; cases h
theorem full_bd {c : List (List Int)} (hz : sqFault c = 0) : 0 ≤ fullBest c ∧ fullBest c ≤ 800000 := by
  obtain ⟨hn, hq⟩ := sq_bd hz
  have := best_le hq (full_cnt hn)
  unfold fullBest
  omega
def rowOf (x : List Int) (i r : Nat) (b : Int) : List Int := if i = r then x.map (· + b) else x
theorem add_get {b : Int} : ∀ {c : List (List Int)} {r i : Nat} {x : List Int}, c[i]? = some x → (addRow c r b)[i]? = some (rowOf x i r b)
  | [], _, _, _, h => by simp at h
  | y :: rest, 0, 0, x, h => by simp at h; subst h; simp [addRow, rowOf]
  | y :: rest, 0, i + 1, x, h => by
    rw [addRow, List.getElem?_cons_succ, rowOf, if_neg (by omega)]
    simpa using h
  | y :: rest, r + 1, 0, x, h => by simp at h; subst h; simp [addRow, rowOf]
  | y :: rest, r + 1, i + 1, x, h => by
    rw [addRow, List.getElem?_cons_succ, add_get (by simpa using h)]
    unfold rowOf
    by_cases e : i = r
    · rw [if_pos e, if_pos (by omega)]
    · rw [if_neg e, if_neg (by omega)]
theorem add_mem {b : Int} : ∀ {c : List (List Int)} {r : Nat} {x : List Int}, x ∈ addRow c r b → ∃ y ∈ c, x.length = y.length
  | [], _, _, h => by cases h
  | y :: rest, 0, x, h => by
    rw [addRow] at h
    rcases List.mem_cons.1 h with rfl | h
    · exact ⟨y, List.mem_cons_self .., by simp⟩
    · exact ⟨x, List.mem_cons_of_mem _ h, rfl⟩
  | y :: rest, r + 1, x, h => by
    rw [addRow] at h
    rcases List.mem_cons.1 h with rfl | h
    · exact ⟨x, List.mem_cons_self .., rfl⟩
    · obtain ⟨z, hz, e⟩ := add_mem h
      exact ⟨z, List.mem_cons_of_mem _ hz, e⟩
theorem firstOf_01 {α : Type} {f : α → Int} : ∀ {l : List α}, (∀ x ∈ l, f x = 0 ∨ f x = 1) → firstOf f l = 0 ∨ firstOf f l = 1
  | [], _ => .inl rfl
  | x :: r, h => by
    rw [firstOf]
    by_cases e : f x = 0
    · rw [if_pos e]; exact firstOf_01 fun y hy => h y (List.mem_cons_of_mem _ hy)
    · rw [if_neg e]; exact .inr ((h x (List.mem_cons_self ..)).resolve_left e)
theorem add_fault {c : List (List Int)} (hz : sqFault c = 0) (r : Nat) (b : Int) : sqFault (addRow c r b) = 0 ∨ sqFault (addRow c r b) = 1 := by
  obtain ⟨hn, hq⟩ := sq_bd hz
  unfold sqFault
  rw [if_neg (by rw [add_len]; omega)]
  refine firstOf_01 fun x hx => ?_
  obtain ⟨y, hy, e⟩ := add_mem hx
  unfold rowFault
  rw [if_neg (by rw [add_len, e, (hq y hy).1]; simp)]
  refine firstOf_01 fun d _ => ?_
  unfold costBad
  split
  · exact .inr rfl
  · exact .inl rfl
theorem add_match {c : List (List Int)} (hz : sqFault c = 0) {r : Nat} {b : Int} (hr : r < c.length) (hb : 0 ≤ b) : matchR (addRow c r b) = matchR c ∧ fullBest (addRow c r b) = fullBest c + b := by
  obtain ⟨hn, hq⟩ := sq_bd hz
  unfold matchR fullBest
  rw [add_len]
  exact ⟨choose_add hb hq.ok (full_cnt hn) hr, best_add hb hq.ok (full_cnt hn) hr⟩

theorem elemOk_rows : ElemOk Tryd.prog 36 37 1 := elemOk_of Tryd.underlying36 (z := .slice none 0 0) (b := 24) (by kernel_rfl) rfl (by decide)
/-- a literal of two rows of two numbers -/
theorem lit_rows (w : World) (a b c d : Int) (ha : I64 a) (hb : I64 b) (hc : I64 c) (hd : I64 d) :
    Rdv (((w.alloc (.cells #[.int .i64 a, .int .i64 b] 3)).alloc (.cells #[.int .i64 c, .int .i64 d] 3)).alloc (.cells #[.slice (some ⟨w.heap.size, 0, none⟩) 2 2, .slice (some ⟨w.heap.size + 1, 0, none⟩) 2 2] 37)) Never (.slice (some ⟨w.heap.size + 2, 0, none⟩) 2 2) [[a, b], [c, d]] := by
  have r1 : Rdv (w.alloc (.cells #[.int .i64 a, .int .i64 b] 3)) Never (.slice (some ⟨w.heap.size, 0, none⟩) 2 2) [a, b] :=
    rdv_lit (e := 3) (cs := [.int .i64 a, .int .i64 b]) (heap_alloc_new _ _) rfl (by decide) ⟨⟨rfl, ha⟩, ⟨rfl, hb⟩, trivial⟩
  have r2 : Rdv ((w.alloc (.cells #[.int .i64 a, .int .i64 b] 3)).alloc (.cells #[.int .i64 c, .int .i64 d] 3)) Never (.slice (some ⟨w.heap.size + 1, 0, none⟩) 2 2) [c, d] :=
    rdv_lit (e := 3) (cs := [.int .i64 c, .int .i64 d]) (by rw [show w.heap.size + 1 = (w.alloc (.cells #[.int .i64 a, .int .i64 b] 3)).heap.size by simp]; exact heap_alloc_new _ _) rfl (by decide) ⟨⟨rfl, hc⟩, ⟨rfl, hd⟩, trivial⟩
  refine rdv_lit (e := 37) (cs := [.slice (some ⟨w.heap.size, 0, none⟩) 2 2, .slice (some ⟨w.heap.size + 1, 0, none⟩) 2 2]) (by rw [show w.heap.size + 2 = ((w.alloc (.cells #[.int .i64 a, .int .i64 b] 3)).alloc (.cells #[.int .i64 c, .int .i64 d] 3)).heap.size by simp]; exact heap_alloc_new _ _) rfl (by decide) ⟨?_, ?_, trivial⟩
  · exact (r1.never ((Chg.refl _ _).alloc _)).never ((Chg.refl _ _).alloc _)
  · exact r2.never ((Chg.refl _ _).alloc _)

set_option maxHeartbeats 8000000 in
set_option maxRecDepth 100000 in
theorem law_matchLeast (c : List (List Int)) (m : List Int) (row b : Int) (vc vm : Value) (w : World) (hcv : Rdv w Never vc c) (hmv : Rdv w Never vm m) (hrow : I64 row) (hby : I64 b) (hg : w.cell? ⟨0, 0, none⟩ = some errT) :
    Calls Tryd.prog 6 #[vc, vm, .int .i64 row, .int .i64 b] w fun e w' => e = .returned (.bool true) ∧ Chg Never w w' := by
  obtain ⟨a, cap, rfl, h1, h2, h3⟩ := rdv_slice hcv
  obtain ⟨a', cap', rfl, g1, g2, g3⟩ := rdv_slice hmv
  unfold maxLen at h2 g2
  by_cases hz : sqFault c = 0
  · have HZ := Lib.hid hz
    have HO : Hid (matchOut c = matchR c) := if_pos hz
    have HS := Lib.hid (cost_self hz)
    have hbd := full_bd hz
    obtain ⟨hn, hq⟩ := sq_bd hz
    clear hz
    go_enter Tryd.func6, Tryd.ntmps6
    go_wp2_with fail
    refine (match_any [[5, 1], [1, 9]] _ _ (lit_rows w 5 1 1 9 (by unfold I64; omega) (by unfold I64; omega) (by unfold I64; omega) (by unfold I64; omega))).mono ?_
    rintro e w1 ⟨r1, rfl, hc1, hr1⟩
    have hw : Chg Never w w1 := ((((Chg.refl Never w).alloc _).alloc _).alloc _).trans hc1
    have hr1 := hr1.sub (O' := Never) (fun _ _ h => h.elim)
    rw [show matchOut [[5, 1], [1, 9]] = [1, 0] by unfold matchOut; rw [if_pos match_fact.1, match_fact.2]] at hr1
    rw [match_fact.1, errV_zero]
    clear hc1
    go_wp2_with fail
    refine (ints_any [1, 0] [1, 0] _ _ _ (hr1.never ((Chg.refl _ _).alloc _)) (rdv_lit (e := 3) (cs := [.int .i64 1, .int .i64 0]) (heap_alloc_new _ _) rfl (by decide) ⟨⟨rfl, by unfold I64; omega⟩, ⟨rfl, by unfold I64; omega⟩, trivial⟩)).mono ?_
    rintro e w2 ⟨rfl, hc2⟩
    have hw : Chg Never w w2 := (hw.alloc _).trans hc2
    rw [decide_eq_true rfl]
    clear hc2 hr1
    go_wp2_with fail
    refine (match_any c _ _ (hcv.never hw)).mono ?_
    rintro e w3 ⟨r3, rfl, hc3, hr3⟩
    have hw := hw.trans hc3
    have hr3 := hr3.sub (O' := Never) (fun _ _ h => h.elim)
    clear hc3
    rw [HO.out] at hr3
    rw [HZ.out, errV_zero]
    go_wp2_with fail
    refine (cost_any c (matchR c) _ _ _ (hcv.never hw) hr3).mono ?_
    rintro e w4 ⟨rfl, hc4⟩
    have hw := hw.trans hc4
    have hr3 := hr3.never hc4
    clear hc4
    rw [HS.out]
    obtain ⟨N, hN⟩ : ∃ N, fullBest c = N := ⟨_, rfl⟩
    have HN := Lib.hid hN
    rw [hN] at hbd ⊢
    clear hN
    rw [errV_zero]
    go_wp2_with fail
    refine (cost_any c m _ _ _ (hcv.never hw) (hmv.never hw)).mono ?_
    rintro e w5 ⟨rfl, hc5⟩
    have hw := hw.trans hc5
    have hr3 := hr3.never hc5
    clear hc5
    go_upto_region 12 with fail
    go_cut [15, 70] from 58 (fun _ tb wx => tb = .bool false ∧ wx = w5)
    case first =>
      by_cases hf : (costR c m).2 = 0
      · have hl := cost_least HZ.out hf
        rw [HN.out] at hl
        have t1 : decide ((costR c m).1 < N) = false := decide_eq_false (by omega)
        rw [hf, errV_zero]
        go_wp2_with fail
        go_meet
        case rel => exact ⟨rfl, rfl⟩
      · rw [errV_pos hf]
        go_wp2_with fail
        go_meet
        case rel => exact ⟨rfl, rfl⟩
    case rest =>
      obtain ⟨rfl, rfl⟩ := hcut
      rename World => w5
      by_cases q1 : row < 0
      · go_wp2_with fail
        go_ret
        exact ⟨rfl, hw⟩
      · by_cases q2 : (c.length : Int) ≤ row
        · go_wp2_with fail
          go_ret
          exact ⟨rfl, hw⟩
        · by_cases q3 : b < 0
          · go_wp2_with fail
            go_ret
            exact ⟨rfl, hw⟩
          · by_cases q4 : 1000 < b
            · go_wp2_with fail
              go_ret
              exact ⟨rfl, hw⟩
            · obtain ⟨r, rfl⟩ : ∃ r : Nat, row = r := ⟨row.toNat, by omega⟩
              have hrc : r < c.length := by omega
              obtain ⟨wB, hwB⟩ : ∃ wB, wB = w5 := ⟨w5, rfl⟩
              have hB : Chg Never w wB := by rw [hwB]; exact hw
              have hr3B : Rdv wB Never r3 (matchR c) := by rw [hwB]; exact hr3
              have hd0 : OwnN 37 wB w5 (.slice none 0 0) ([] : List (List Int)) := ownN_nil _ (by rw [hwB]; exact Chg.refl _ _)
              clear hr3 hw hwB
              go_wp2_with fail
              go_loopw [17, 18] (fun dv i wr => ∃ k : Nat, k ≤ c.length ∧ i = .int .i64 k ∧ OwnN 37 wB wr dv ((addRow c r b).take k)) (fun _ i _ => c.length - (intOf i).toNat)
              case atStart => exact ⟨0, Nat.zero_le _, rfl, hd0⟩
              case round =>
                clear hd0
                obtain ⟨k, hk, rfl, hd⟩ := hrel
                have hw := hB.trans hd.chg
                by_cases hlt : k < c.length
                · obtain ⟨x, hx⟩ : ∃ x, c[k]? = some x := ⟨c[k], by simp [hlt]⟩
                  have hxl : x.length = c.length := (hq x (List.mem_of_getElem? hx)).1
                  obtain ⟨bb, off, xv, rfl, _, _, hcx, hxr⟩ := elems_row h3 hx
                  obtain ⟨ax, capx, rfl, x1, x2, x3⟩ := rdv_slice hxr
                  unfold maxLen at x2
                  have HX := Lib.hid hx
                  have HA := Lib.hid (add_get (r := r) (b := b) hx)
                  have hxn : x.length ≤ 8 := by omega
                  have hrl : (rowOf x k r b).length = x.length := by unfold rowOf; split <;> simp
                  have HRL := Lib.hid hrl
                  have hcx2 := hw.cellNever hcx
                  clear hx hxl hxr h3 hrl
                  have hal : ((addRow c r b).take k).length ≤ 8 := by rw [List.length_take]; omega
                  obtain ⟨wS, hS⟩ : ∃ wS, wS = wr := ⟨wr, rfl⟩
                  have hcS : Chg Never wS wr := by rw [hS]; exact Chg.refl _ _
                  have hdS := hd
                  rw [← hS] at hdS
                  have hwS : Chg Never w wS := hB.trans hdS.chg
                  clear hS hd hw
                  go_wp2_with fail
                  go_loopw [19, 20] (fun lv i wx => ∃ j : Nat, j ≤ x.length ∧ i = .int .i64 j ∧ Chg Never wS wx ∧ Own 3 wx (Old wS.heap.size) lv ((rowOf x k r b).take j)) (fun _ i _ => x.length - (intOf i).toNat)
                  case atStart => exact ⟨0, Nat.zero_le _, rfl, hcS, own_nil _ _ _⟩
                  case round =>
                    clear hcS hcx2
                    obtain ⟨j, hj, rfl, hcS, hl⟩ := hrel
                    have hcx2 := (hwS.trans hcS).cellNever hcx
                    by_cases hjl : j < x.length
                    · obtain ⟨y, hy⟩ : ∃ y, x[j]? = some y := ⟨x[j], by simp [hjl]⟩
                      obtain ⟨b', off', rfl, _, hcy, hyi⟩ := elems_ints x3 hy
                      have hcy := (hwS.trans hcS).cellNever hcy
                      have hyb := (hq x (List.mem_of_getElem? HX.out)).2 y (List.mem_of_getElem? hy)
                      have HY := Lib.hid hy
                      have hl8 : ((rowOf x k r b).take j).length ≤ 8 := by rw [List.length_take]; omega
                      clear hy x3
                      by_cases e : k = r
                      · have t1 : ((k : Int) == r) = true := by simp [e]
                        have HN : Hid ((rowOf x k r b).take (j + 1) = (rowOf x k r b).take j ++ [y + b]) := by
                          rw [Hid, List.take_add_one]
                          congr 1
                          rw [rowOf, if_pos e, List.getElem?_map, HY.out]; rfl
                        have hyi2 : I64 (y + b) := by unfold I64; omega
                        have hsum : wrap64 (y + b) = y + b := by unfold wrap64; omega
                        clear e
                        go_wp2_with (at_builtin; refine wpList_push (by rfl) _ _ 37 (by rfl) elemOk_ints (O := Old wS.heap.size) (l := (rowOf x k r b).take j) (y := y + b) (by rfl) (by rfl) (by simp) hl ⟨rfl, hyi2⟩ (old_lt hcS) (by omega) ?_; intro v' w7 hl2 hc7 _)
                        have hcS2 := own_step hcS hl hc7
                        clear hc7 hl hcS
                        go_wp2_with fail
                        go_roundw
                        case rel => exact ⟨j + 1, by omega, by go_num, hcS2, by rw [HN.out]; exact hl2⟩
                        case measure => simp [intOf]; omega
                      · have t1 : ((k : Int) == r) = false := by simp; omega
                        have HN : Hid ((rowOf x k r b).take (j + 1) = (rowOf x k r b).take j ++ [y]) := by
                          rw [Hid, List.take_add_one]
                          congr 1
                          rw [rowOf, if_neg e, HY.out]; rfl
                        clear e
                        go_wp2_with (at_builtin; refine wpList_push (by rfl) _ _ 37 (by rfl) elemOk_ints (O := Old wS.heap.size) (l := (rowOf x k r b).take j) (y := y) (by rfl) (by rfl) (by simp) hl ⟨rfl, hyi⟩ (old_lt hcS) (by omega) ?_; intro v' w7 hl2 hc7 _)
                        have hcS2 := own_step hcS hl hc7
                        clear hc7 hl hcS
                        go_wp2_with fail
                        go_roundw
                        case rel => exact ⟨j + 1, by omega, by go_num, hcS2, by rw [HN.out]; exact hl2⟩
                        case measure => simp [intOf]; omega
                    · obtain rfl : j = x.length := by omega
                      rw [List.take_of_length_le (by rw [HRL.out]; exact Nat.le_refl _)] at hl
                      have hdX := hdS.never hcS
                      have hlv : Rdv _ (fun q => Never q ∨ _ = some q) _ (rowOf x k r b) := hl.rdv.sub (fun q _ hh => by
                        rcases hh with hh | hh
                        · exact hh.elim
                        · exact own_block_lt hdS.own q hh)
                      obtain ⟨al, capl, rfl, _⟩ := rdv_slice hl.rdv
                      go_wp2_with (at_builtin; refine wpList_push (by rfl) _ _ 36 (by rfl) elemOk_rows (O := Never) (l := (addRow c r b).take k) (y := rowOf x k r b) (by rfl) (by rfl) (by simp) hdX.own hlv (fun _ h => h.elim) (by omega) ?_; intro v' w7 hd2 hc7 hk7)
                      have hd3 := hdX.step1 hd2 hc7 hk7
                      have HT : Hid ((addRow c r b).take (k + 1) = (addRow c r b).take k ++ [rowOf x k r b]) := by rw [Hid, List.take_add_one, HA.out]; rfl
                      clear hd2 hc7 hk7 hdX hlv hdS hcx2 hcS hl
                      go_wp2_with fail
                      go_roundw
                      case rel => exact ⟨k + 1, by omega, by go_num, by rw [HT.out]; exact hd3⟩
                      case measure => simp [intOf]; omega
                · obtain rfl : k = c.length := by omega
                  rw [List.take_of_length_le (by rw [add_len]; exact Nat.le_refl _)] at hd
                  have hdr := hd.own.rdv
                  have hr3 : Rdv _ Never r3 (matchR c) := (hd.away hr3B).sub (fun _ _ h => h.elim)
                  obtain ⟨ad, capd, rfl, _⟩ := rdv_slice hdr
                  have hrb : 0 ≤ b := by omega
                  clear hd
                  go_wp2_with fail
                  refine (match_any (addRow c r b) _ _ hdr).mono ?_
                  rintro e w6 ⟨r6, rfl, hc6, hr6⟩
                  have hr6 := hr6.sub (O' := Never) (fun _ _ h => h.elim)
                  have hw := hw.trans hc6
                  have hdr := hdr.never hc6
                  have hr3 := hr3.never hc6
                  clear hc6
                  by_cases hf : sqFault (addRow c r b) = 0
                  · obtain ⟨e1, e2⟩ := add_match HZ.out hrc hrb
                    have HO2 : Hid (matchOut (addRow c r b) = matchR c) := by unfold Hid matchOut; rw [if_pos hf, e1]
                    have HC2 : Hid (costR (addRow c r b) (matchR c) = (N + b, 0)) := by
                      have := cost_self hf
                      rw [e1, e2, HN.out] at this
                      exact this
                    have hsum : wrap64 (N + b) = N + b := by unfold wrap64; omega
                    rw [hf, errV_zero]
                    rw [HO2.out] at hr6
                    clear e1 e2 hf
                    go_wp2_with fail
                    refine (cost_any (addRow c r b) (matchR c) _ _ _ hdr hr6).mono ?_
                    rintro e w8 ⟨rfl, hc8⟩
                    have hw := hw.trans hc8
                    have hr6 := hr6.never hc8
                    have hr3 := hr3.never hc8
                    clear hc8 hdr
                    rw [HC2.out, errV_zero]
                    go_wp2_with fail
                    refine (ints_any _ _ _ _ _ hr3 hr6).mono ?_
                    rintro e w9 ⟨rfl, hc9⟩
                    have hw := hw.trans hc9
                    rw [decide_eq_true rfl]
                    clear hc9 hr3 hr6
                    go_wp2_with fail
                    go_ret
                    exact ⟨rfl, hw⟩
                  · have hf1 : sqFault (addRow c r b) = 1 := (add_fault HZ.out r b).resolve_left hf
                    rw [hf1, errV_pos (by decide)]
                    clear hf hf1 hdr hr6 hr3
                    go_wp2_with fail
                    rw [← errV_pos (show (1 : Int) ≠ 0 by decide)]
                    refine (error_any _ _ _ (hw.cellNever hg)).mono ?_
                    rintro e' w' ⟨rfl, hcE⟩
                    have hw := hw.trans hcE
                    rw [beq_self_eq_true]
                    clear hcE
                    go_wp2_with fail
                    go_ret
                    exact ⟨rfl, hw⟩
  · have HZ := Lib.hid hz
    have t0 : (sqFault c != 0) = true := by simp [hz]
    clear hz
    go_enter Tryd.func6, Tryd.ntmps6
    go_wp2_with fail
    refine (match_any [[5, 1], [1, 9]] _ _ (lit_rows w 5 1 1 9 (by unfold I64; omega) (by unfold I64; omega) (by unfold I64; omega) (by unfold I64; omega))).mono ?_
    rintro e w1 ⟨r1, rfl, hc1, hr1⟩
    have hw : Chg Never w w1 := ((((Chg.refl Never w).alloc _).alloc _).alloc _).trans hc1
    have hr1 := hr1.sub (O' := Never) (fun _ _ h => h.elim)
    rw [show matchOut [[5, 1], [1, 9]] = [1, 0] by unfold matchOut; rw [if_pos match_fact.1, match_fact.2]] at hr1
    rw [match_fact.1, errV_zero]
    clear hc1
    go_wp2_with fail
    refine (ints_any [1, 0] [1, 0] _ _ _ (hr1.never ((Chg.refl _ _).alloc _)) (rdv_lit (e := 3) (cs := [.int .i64 1, .int .i64 0]) (heap_alloc_new _ _) rfl (by decide) ⟨⟨rfl, by unfold I64; omega⟩, ⟨rfl, by unfold I64; omega⟩, trivial⟩)).mono ?_
    rintro e w2 ⟨rfl, hc2⟩
    have hw : Chg Never w w2 := (hw.alloc _).trans hc2
    rw [decide_eq_true rfl]
    clear hc2 hr1
    go_wp2_with fail
    refine (match_any c _ _ (hcv.never hw)).mono ?_
    rintro e w3 ⟨r3, rfl, hc3, hr3⟩
    have hw := hw.trans hc3
    have hr3 := hr3.sub (O' := Never) (fun _ _ h => h.elim)
    clear hc3
    rw [errV_pos HZ.out]
    go_wp2_with fail
    refine (refSquare_any c _ _ (hcv.never hw)).mono ?_
    rintro e w4 ⟨rfl, rfl⟩
    go_wp2_with fail
    go_ret
    exact ⟨by first | rfl | (rw [t0]; rfl), hw⟩
end Go.Proofs.YtcgjegjnodopoaaDoor
