/-
  THE WALKS of match.choose, Match.
-/
import Derived.Test.YtcgjegjnodopoaaDoorMatchB
import Derived.Test.YtcgjegjnodopoaaDoorOwn
namespace Go.Proofs.YtcgjegjnodopoaaDoor
open Go.RowKit

theorem elemOk_ints : ElemOk Tryd.prog 37 3 1 := elemOk_of Tryd.underlying37 (z := .int .i64 0) (b := 8) (by kernel_rfl) rfl (by decide)
/-- what is chosen of a square -/
def matchR (l : List (List Int)) : List Int := chooseS l (bitsOf (2 ^ l.length - 1))
theorem full_cnt {l : List (List Int)} (hn : l.length ≤ 8) : l.length ≤ cntL (bitsOf (2 ^ l.length - 1)) l.length := by
  rw [cnt_full l.length l.length (Nat.le_refl _)]; exact Nat.le_refl _
/-- the first column that is as cheap as can be -/
theorem choose_hit {row : List Int} {rest : List (List Int)} {left : Nat → Bool} {k : Nat} (hk : k < row.length) (hl : left k = true) (he : row.getD k 0 + bestS rest (delC left k) = bestS (row :: rest) left)
    (hb : ∀ j, j < k → left j = true → row.getD j 0 + bestS rest (delC left j) ≠ bestS (row :: rest) left) : chooseS (row :: rest) left = (k : Int) :: chooseS rest (delC left k) := by
  have hf : (List.range row.length).find? (fun k => left k && row.getD k 0 + bestS rest (delC left k) == bestS (row :: rest) left) = some k := by
    rw [List.find?_range_eq_some]
    refine ⟨by rw [hl, he]; simp, List.mem_range.2 hk, fun i qi => ?_⟩
    cases li : left i with
    | false => rfl
    | true =>
      have := hb i qi li
      simp only [Bool.true_and, Bool.not_eq_true', beq_eq_false_iff_ne, ne_eq]
      exact this
  rw [chooseS, hf]
def MissTo (row : List Int) (rest : List (List Int)) (left : Nat → Bool) (k : Nat) : Prop := ∀ j, j < k → left j = true → row.getD j 0 + bestS rest (delC left j) ≠ bestS (row :: rest) left
theorem MissTo.step {row : List Int} {rest : List (List Int)} {left : Nat → Bool} {k : Nat} (h : MissTo row rest left k) (hk : left k = true → row.getD k 0 + bestS rest (delC left k) ≠ bestS (row :: rest) left) : MissTo row rest left (k + 1) := fun j hj hl => by
  by_cases e : j = k
  · subst e; exact hk hl
  · exact h j (by omega) hl

set_option maxHeartbeats 2000000 in
set_option maxRecDepth 100000 in
theorem choose_any (l : List (List Int)) (v : Value) (w : World) (h : Rdv w Never v l) (hn : l.length ≤ 8) (hq : SqBd l.length l) :
    Calls Tryd.prog 25 #[v] w fun e w' => ∃ r, e = .returned r ∧ Chg Never w w' ∧ Rdv w' (Old w.heap.size) r (matchR l) := by
  have hv := h
  obtain ⟨a, cap, rfl, h1, h2, h3⟩ := rdv_slice h
  unfold maxLen at h2
  have hp1 : 1 ≤ 2 ^ l.length := Nat.two_pow_pos _
  have hp2 : 2 ^ l.length ≤ 256 := Nat.pow_le_pow_right (n := 2) (by decide) hn
  have hpw := pow_wrap hn
  have hst : wrap64 ((2 : Int) ^ l.length - 1) = ((2 ^ l.length - 1 : Nat) : Int) := by
    have e : ((2 : Int) ^ l.length) = ((2 ^ l.length : Nat) : Int) := by rw [Int.natCast_pow]; rfl
    rw [e]
    generalize 2 ^ l.length = p at hp1 hp2
    unfold wrap64; omega
  go_enter Tryd.func25, Tryd.ntmps25
  go_wp2_with fail
  refine (least_any l _ _ hv hn hq).mono ?_
  rintro e w1 ⟨mb, F, rfl, hw1, hmb, hm, hF⟩
  have HF := Lib.hid hF
  clear hF hv
  go_wp2_with fail
  go_loopw [4, 5, 18] (fun st o i wr => ∃ (s k : Nat) (L : List Int), st = .int .i64 s ∧ i = .int .i64 k ∧ k ≤ l.length ∧ s < 2 ^ l.length ∧ L.length = k ∧ Chg Never w1 wr ∧ Own 3 wr (Old w1.heap.size) o L ∧ Hid (k + cntN s = l.length) ∧ Hid (L ++ chooseS (l.drop k) (bitsOf s) = matchR l)) (fun _ _ i _ => l.length - (intOf i).toNat)
  case atStart =>
    refine ⟨2 ^ l.length - 1, 0, [], by first | rfl | (congr 1), rfl, Nat.zero_le _, by omega, rfl, Chg.refl _ _, own_nil _ _ _, ?_, rfl⟩
    rw [Hid, cntN_full hn, Nat.zero_add]
  case round =>
    obtain ⟨s, k, L, rfl, rfl, hk, hs, hL, hc, hown, hcn, hR⟩ := hrel
    clear hpw hst
    by_cases hlt : k < l.length
    · have hs256 : s < 256 := by omega
      obtain ⟨x, hx⟩ : ∃ x, l[k]? = some x := ⟨l[k], by simp [hlt]⟩
      have hxl : x.length = l.length := (hq x (List.mem_of_getElem? hx)).1
      obtain ⟨b, off, xv, rfl, _, _, hcx, hxr⟩ := elems_row h3 hx
      have hcw := hw1.trans hc
      have hcx := hcw.cellNever hcx
      have hxr := hxr.never hcw
      clear h3 h
      obtain ⟨a', cap', rfl, g1, g2, g3⟩ := rdv_slice hxr
      unfold maxLen at g2
      clear hxr
      have hmr := hm.keep hc (fun q => q)
      have HX := Lib.hid hx
      have HL := Lib.hid hxl
      have HD := Lib.hid (drop_eq hx)
      have HS := Lib.hid hs
      have hFs : Hid (F s = bestS (x :: l.drop (k + 1)) (bitsOf s)) := by
        rw [Hid, HF.out s (by have := Nat.two_pow_pos l.length; omega), bestN]
        rw [show l.length - cntN s = k by have := hcn.out; omega, drop_eq hx]
      have hFb : 0 ≤ F s ∧ F s ≤ 800000 := by rw [HF.out s hs]; exact bestN_bd hq hn hs
      clear hx hxl hs
      go_wp2_with fail
      go_loopw [4, 5, 24] (fun st u i wx => ∃ j : Nat, j ≤ l.length ∧ i = .int .i64 j ∧ st = .int .i64 s ∧ Chg Never wr wx ∧ Own 3 wx (Old w1.heap.size) u L ∧ Hid (MissTo x (l.drop (k + 1)) (bitsOf s) j)) (fun _ _ i _ => l.length - (intOf i).toNat)
      case atStart => exact ⟨0, Nat.zero_le _, rfl, rfl, Chg.refl _ _, hown, fun j hj => absurd hj (Nat.not_lt_zero j)⟩
      case round =>
        obtain ⟨j, hj, rfl, rfl, hwx, hown, hM⟩ := hrel
        rename World => wx
        by_cases hjl : j < l.length
        · have hbt := bits_at64 s hs256 j (by omega)
          obtain ⟨y, hy⟩ : ∃ y, x[j]? = some y := ⟨x[j]'(by rw [HL.out]; exact hjl), by simp [HL.out ▸ hjl]⟩
          obtain ⟨b', off', rfl, _, hcy, hyi⟩ := elems_ints g3 hy
          have hcy := hwx.cellNever hcy
          have hyb := (hq x (List.mem_of_getElem? HX.out)).2 y (List.mem_of_getElem? hy)
          have hyd : x.getD j 0 = y := by rw [List.getD_eq_getElem?_getD, hy]; rfl
          have hjx : j < x.length := by rw [HL.out]; exact hjl
          have HY := Lib.hid hyd
          clear g3 hy hyd
          cases hb : s.testBit j with
          | false =>
            have hM2 : Hid (MissTo x (l.drop (k + 1)) (bitsOf s) (j + 1)) := hM.out.step (fun q => by unfold bitsOf at q; rw [hb] at q; cases q)
            rw [hb] at hbt
            clear hb hcx
            go_wp2_with fail
            go_quiet (fail)
            go_wp2_with fail
            go_roundw
            case rel => exact ⟨j + 1, by omega, by go_num, rfl, hwx.drewN _, hown.never ((Chg.refl _ _).drewN _), hM2⟩
            case measure => simp [intOf]; omega
          | true =>
            rw [hb] at hbt
            have hbo : bitsOf s j = true := hb
            obtain ⟨d, hds, hdl, hFd, hF0, hF8, hsd⟩ := del_step hq hn HS.out (by omega) hb hcn.out (fun d hd => HF.out d (Nat.lt_trans hd HS.out))
            have hlk : ∀ q, (Instr.lookup 57 (.map (some mb)) (.int .i64 (d : Int)) false).run Tryd.prog (wx.drewN q) = .ok (.int .i64 (F d)) (wx.drewN q) := fun q => (hmr.keep (hwx.drewN q) (fun q => q)).look (j := (d : Int)) (by unfold I64; omega)
            have hlk2 : ∀ q, (Instr.lookup 57 (.map (some mb)) (.int .i64 (s : Int)) false).run Tryd.prog (wx.drewN q) = .ok (.int .i64 (F s)) (wx.drewN q) := fun q => (hmr.keep (hwx.drewN q) (fun q => q)).look (j := (s : Int)) (by unfold I64; omega)
            have hsum : wrap64 (y + F d) = y + F d := by unfold wrap64; omega
            have HFD := Lib.hid hFd
            have HBO := Lib.hid hbo
            by_cases hit : y + F d = F s
            · have ht : (y + F d == F s) = true := by simp [hit]
              have hch : Hid (chooseS (x :: l.drop (k + 1)) (bitsOf s) = (j : Int) :: chooseS (l.drop (k + 1)) (bitsOf d)) := by
                rw [Hid, choose_hit hjx hbo (by rw [HY.out, ← HFD.out, hit, hFs.out]) hM.out, ← hsd, bits_del hs256 (by omega) hbo]
              have hcd : Hid (k + 1 + cntN d = l.length) := by
                have := (cntN_del hs256 (k := j) (by omega) hbo).1
                have := hcn.out
                rw [hsd] at *
                unfold Hid; omega
              clear hit hb hbo hFd hcx hsd
              go_wp2_with fail
              go_quiet (fail)
              have hown2 := hown.never ((Chg.refl Never wx).drewN nq)
              have hc2 := hc.trans (hwx.drewN nq)
              have hji : I64 (j : Int) := by unfold I64; omega
              clear hown hlk hlk2
              go_wp2_with (at_builtin; refine wpList_push (by rfl) _ _ 37 (by rfl) elemOk_ints (O := Old w1.heap.size) (l := L) (y := (j : Int)) (by rfl) (by rfl) (by simp) hown2 ⟨rfl, hji⟩ (old_lt hc2) (by omega) ?_; intro v' w2 hown3 hc3 _)
              have hc4 := own_step hc2 hown2 hc3
              clear hc3 hown2 hc2 hwx hcw hc
              go_wp2_with fail
              go_roundw
              case rel =>
                refine ⟨d, k + 1, L ++ [(j : Int)], by first | rfl | (congr 1), by go_num, by omega, by have := HS.out; omega, by simp; omega, hc4, hown3, hcd.out, ?_⟩
                have e := hR.out
                rw [HD.out, hch.out] at e
                rw [Hid, List.append_assoc]
                exact e
              case measure => simp [intOf]; omega
            · have ht : (y + F d == F s) = false := by simp [hit]
              have hM2 : Hid (MissTo x (l.drop (k + 1)) (bitsOf s) (j + 1)) := hM.out.step (fun _ => by rw [HY.out, ← HFD.out, ← hFs.out]; exact hit)
              clear hit hb hbo hFd hcx hsd
              go_wp2_with fail
              go_quiet (fail)
              go_wp2_with fail
              go_roundw
              case rel => exact ⟨j + 1, by omega, by go_num, rfl, hwx.drewN _, hown.never ((Chg.refl _ _).drewN _), hM2⟩
              case measure => simp [intOf]; omega
        · exfalso
          obtain ⟨q, q1, q2, q3, _⟩ := best_step (n := l.length) (left := bitsOf s) (hq.ok |> fun hh => (show SqOk l.length (x :: l.drop (k + 1)) by rw [← HD.out]; exact fun r hr => hh r (List.mem_of_mem_drop hr))) (by
            rw [List.length_drop]
            have := hcn.out
            unfold cntN at this
            rw [cnt_beyond HS.out 8 hn] at this
            omega)
          exact hM.out q (by omega) q2 q3.symm
    · obtain rfl : k = l.length := by omega
      have hR' := hR.out
      rw [List.drop_length, chooseS, List.append_nil] at hR'
      subst hR'
      clear hcn hR
      go_wp2_with fail
      go_ret
      exact ⟨_, rfl, hw1.trans hc, hown.rdv.sub (fun k _ hk => Nat.lt_of_lt_of_le hk hw1.size)⟩
end Go.Proofs.YtcgjegjnodopoaaDoor
