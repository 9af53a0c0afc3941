/-
  PARTS: THE WALK of match.least.; THE WALKS of match.choose, Match.; A ROW OF A BLOCK's CELLS, as a function of the place; a row of numbers that make([]int, n) has made.; MORE ON SLICES THAT append HAS BUILT.; THE WALK of match.Range.; THE SHAPE OF A CHANGE AS THE DOCUMENT ASKS FOR IT, in plain Lean.
-/
import Derived.Test.YtgabchhplmncnaaDoorPackRs7
import Derived.Test.YtgabchhplmncnaaDoorPackRs3
import Derived.Test.YtgabchhplmncnaaDoorPackRs6
namespace Go.Proofs.YtgabchhplmncnaaDoor
open Go.RowKit

def FOk (rows : List (List Int)) (F : Int → Int) (s : Nat) : Prop := ∀ t : Nat, t < s → F t = bestN rows t
theorem sq_bd {l : List (List Int)} (h : sqFault l = 0) : l.length ≤ 8 ∧ SqBd l.length l := by
  unfold sqFault at h
  by_cases e : 8 < l.length
  · rw [if_pos e] at h; cases h
  · rw [if_neg e, firstOf_zero] at h
    refine ⟨by omega, fun row hr => ?_⟩
    have := h row hr
    unfold rowFault at this
    by_cases e1 : row.length ≠ l.length
    · rw [if_pos e1] at this; cases this
    · rw [if_neg e1, firstOf_zero] at this
      refine ⟨by omega, fun c hc => ?_⟩
      have := this c hc
      unfold costBad at this
      by_cases e2 : c < 0 ∨ 100000 < c
      · rw [if_pos e2] at this; cases this
      · omega

theorem pow_wrap {n : Nat} (h : n ≤ 8) : wrap64 ((2 : Int) ^ n) = ((2 ^ n : Nat) : Int) := by
  have : 2 ^ n ≤ 256 := Nat.pow_le_pow_right (n := 2) (by decide) h
  have e : ((2 : Int) ^ n) = ((2 ^ n : Nat) : Int) := by rw [Int.natCast_pow]; rfl
  rw [e]
  generalize 2 ^ n = m at this
  unfold wrap64
  omega

theorem del_step {l : List (List Int)} {F : Int → Int} {s k rr : Nat} (hq : SqBd l.length l) (hn : l.length ≤ 8) (hs : s < 2 ^ l.length) (hk : k < 8) (hb : s.testBit k = true) (hr : rr + cntN s = l.length) (hF : ∀ d : Nat, d < s → F d = bestN l d) :
    ∃ d : Nat, d < s ∧ bits .andNot .i64 (s : Int) (wrap64 (2 ^ k)) = (d : Int) ∧ F d = bestS (l.drop (rr + 1)) (delC (bitsOf s) k) ∧ 0 ≤ F d ∧ F d ≤ 800000 ∧ s - 2 ^ k = d := by
  have h256 := pow_small hs hn
  have hbo : bitsOf s k = true := hb
  obtain ⟨_, h2⟩ := cntN_del h256 hk hbo
  have hp := Nat.two_pow_pos k
  have hd : s - 2 ^ k < s := by omega
  have hbd := bestN_bd hq hn (s := s - 2 ^ k) (by omega)
  have e := hF _ hd
  refine ⟨s - 2 ^ k, hd, ?_, ?_, ?_, ?_, rfl⟩
  · rw [pow_wrap (n := k) (by omega)]
    exact bits_del64 s h256 k hk hb
  · rw [e, bestN_del h256 hk hbo hr]
  · rw [e]; exact hbd.1
  · rw [e]; exact hbd.2

set_option maxHeartbeats 1000000 in
set_option maxRecDepth 100000 in
theorem least_any (l : List (List Int)) (v : Value) (w : World) (h : Rdv w Never v l) (hn : l.length ≤ 8) (hq : SqBd l.length l) :
    Calls Tryd.prog 18 #[v] w fun e w' => ∃ b F, e = .returned (.map (some b)) ∧ Chg Never w w' ∧ w.heap.size ≤ b ∧ IntMap w' b 256 F ∧ FOk l F (2 ^ l.length) := by
  obtain ⟨a, cap, rfl, h1, h2, h3⟩ := rdv_slice h
  unfold maxLen at h2
  have hmm := @run_makeMap Tryd.prog
  have hp1 : 1 ≤ 2 ^ l.length := Nat.two_pow_pos _
  have hp2 : 2 ^ l.length ≤ 256 := Nat.pow_le_pow_right (n := 2) (by decide) hn
  obtain ⟨w1, hrun, hm1, hc1⟩ := (intMap_made w).put (j := 0) (c := 0) (by decide) (by unfold I64; omega) (by unfold I64; omega)
  go_enter Tryd.func18, Tryd.ntmps18
  have hA : Chg Never w w1 := ((Chg.refl Never w).alloc _).trans' hc1 (fun k hk hh => by subst hh; exact absurd hk (Nat.lt_irrefl _))
  have hF1 : Hid (FOk l (fun i => if i = 0 then 0 else (fun _ => 0) i) 1) := fun t ht => by
    obtain rfl : t = 0 := by omega
    rw [bestN_zero]; rfl
  generalize (fun i : Int => if i = 0 then (0 : Int) else (fun _ => 0) i) = F1 at hm1 hF1
  have hm1 := hm1.mono (n' := 1) (by decide)
  go_wp2_with fail
  clear hc1 hmm hrun
  go_loopw [5] (fun i wr => ∃ (s : Nat) (F : Int → Int), 1 ≤ s ∧ s ≤ 2 ^ l.length ∧ i = .int .i64 s ∧ Chg Never w wr ∧ IntMap wr w.heap.size s F ∧ Hid (FOk l F s)) (fun i _ => 256 - (intOf i).toNat)
  case atStart => exact ⟨1, F1, by omega, by omega, rfl, hA, hm1, hF1⟩
  case round =>
    obtain ⟨s, F, hs1, hs2, rfl, hw, hm, hF⟩ := hrel
    have hpw := pow_wrap hn
    by_cases hlt : s < 2 ^ l.length
    · have hs256 : s < 256 := by omega
      have t1 : decide ((s : Int) < wrap64 (2 ^ l.length)) = true := by rw [hpw]; exact decide_eq_true (by omega)
      clear hpw
      go_wp2_with fail
      go_loop [6, 7] (fun r t => ∃ (rr tt : Nat), r = .int .i64 rr ∧ t = .int .i64 tt ∧ tt ≤ s ∧ rr ≤ l.length ∧ Hid (rr + cntN s = l.length + cntN tt)) (fun _ t => (intOf t).toNat)
      case atStart => exact ⟨l.length, s, rfl, rfl, Nat.le_refl _, Nat.le_refl _, rfl⟩
      case round =>
        obtain ⟨rr, tt, rfl, rfl, hts, hrn, hrt⟩ := hrel
        by_cases ht0 : 0 < tt
        · have t2 : decide (0 < (tt : Int)) = true := decide_eq_true (by omega)
          have hlow := bits_low64 tt (by omega) ht0
          have hcl := cntN_low (s := tt) (by omega) ht0
          have hr1 : 1 ≤ rr := by have := hrt.out; have := cntN_le hlt hn; omega
          have hw1 : wrap64 ((rr : Int) - 1) = ((rr - 1 : Nat) : Int) := by unfold wrap64; omega
          go_wp2_with fail
          go_round
          case rel => exact ⟨rr - 1, tt &&& (tt - 1), by congr 1; omega, by first | rfl | assumption, by omega, by omega, by have := hrt.out; unfold Hid; omega⟩
          case measure => simp [intOf]; omega
        · obtain rfl : tt = 0 := by omega
          have hcs := cntN_le hlt hn
          have hcp := cntN_pos hs256 hs1
          have hrs : rr + cntN s = l.length := by have := hrt.out; rw [cntN_zero] at this; exact this
          have hrl : rr < l.length := by omega
          clear hrt
          obtain ⟨x, hx⟩ : ∃ x, l[rr]? = some x := ⟨l[rr], by simp [hrl]⟩
          have hxl : x.length = l.length := (hq x (List.mem_of_getElem? hx)).1
          obtain ⟨b, off, xv, rfl, _, _, hcx, hxr⟩ := elems_row h3 hx
          have hcx := hw.cellNever hcx
          have hxr := hxr.never hw
          clear h3 h
          obtain ⟨a', cap', rfl, g1, g2, g3⟩ := rdv_slice hxr
          unfold maxLen at g2
          clear hxr
          have HX := Lib.hid hx
          have HS := Lib.hid hrs
          have HL := Lib.hid hxl
          clear hx hrs hxl hcs hcp
          go_wp2_with fail
          go_loopw [8, 32] (fun be i wx => ∃ k : Nat, k ≤ l.length ∧ i = .int .i64 k ∧ be = .int .i64 (minGo (fun k => x.getD k 0 + bestS (l.drop (rr + 1)) (delC (bitsOf s) k)) (bitsOf s) k) ∧ Chg Never wr wx) (fun _ i _ => l.length - (intOf i).toNat)
          case atStart => exact ⟨0, Nat.zero_le _, rfl, rfl, Chg.refl _ _⟩
          case round =>
            obtain ⟨k, hk, rfl, rfl, hwx⟩ := hrel
            rename World => wx
            by_cases hkl : k < l.length
            · have hbt := bits_at64 s hs256 k (by omega)
              cases hb : s.testBit k with
              | false =>
                have HM : Hid (minGo (fun k => x.getD k 0 + bestS (l.drop (rr + 1)) (delC (bitsOf s) k)) (bitsOf s) (k + 1) = minGo (fun k => x.getD k 0 + bestS (l.drop (rr + 1)) (delC (bitsOf s) k)) (bitsOf s) k) := by
                  rw [Hid, minGo, if_neg]
                  rintro ⟨q, _⟩
                  unfold bitsOf at q
                  rw [hb] at q; cases q
                rw [hb] at hbt
                clear hb
                go_wp2_with fail
                go_roundw
                case rel => exact ⟨k + 1, by omega, by go_num, by rw [HM.out], hwx⟩
                case measure => simp [intOf]; omega
              | true =>
                rw [hb] at hbt
                have hbo : bitsOf s k = true := hb
                obtain ⟨d, hds, hdl, hFd, hF0, hF8, _⟩ := del_step hq hn hlt (by omega) hb HS.out hF.out
                have hlk : ∀ q, (Instr.lookup 45 (.map (some w.heap.size)) (.int .i64 (d : Int)) false).run Tryd.prog (wx.drewN q) = .ok (.int .i64 (F d)) (wx.drewN q) := fun q => (hm.keep (hwx.drewN q) (fun q => q)).look (j := (d : Int)) (by unfold I64; omega)
                obtain ⟨y, hy⟩ : ∃ y, x[k]? = some y := ⟨x[k]'(by rw [HL.out]; exact hkl), by simp [HL.out ▸ hkl]⟩
                obtain ⟨b', off', rfl, _, hcy, hyi⟩ := elems_ints g3 hy
                have hcx := hwx.cellNever hcx
                have hcy := hwx.cellNever hcy
                have hyb := (hq x (List.mem_of_getElem? HX.out)).2 y (List.mem_of_getElem? hy)
                have hyd : x.getD k 0 = y := by rw [List.getD_eq_getElem?_getD, hy]; rfl
                have hkx : k < x.length := by rw [HL.out]; exact hkl
                have HY := Lib.hid hyd
                have HB := Lib.hid hbo
                have HF := Lib.hid hFd
                clear g3 hy hyd hbo hb hFd
                obtain ⟨m, hmm⟩ : ∃ m, minGo (fun k => x.getD k 0 + bestS (l.drop (rr + 1)) (delC (bitsOf s) k)) (bitsOf s) k = m := ⟨_, rfl⟩
                have HM := Lib.hid hmm
                rw [hmm]
                clear hmm
                have hsum : wrap64 (y + F d) = y + F d := by unfold wrap64; omega
                by_cases hm0 : m < 0
                · have HN : Hid (minGo (fun k => x.getD k 0 + bestS (l.drop (rr + 1)) (delC (bitsOf s) k)) (bitsOf s) (k + 1) = y + F d) := by
                    rw [Hid, minGo, if_pos ⟨HB.out, .inl (by rw [HM.out]; exact hm0)⟩, HY.out, HF.out]
                  go_wp2_with fail
                  go_quiet (fail)
                  go_wp2_with fail
                  go_roundw
                  case rel => exact ⟨k + 1, by omega, by go_num, by rw [HN.out], hwx.drewN _⟩
                  case measure => simp [intOf]; omega
                · by_cases hlm : y + F d < m
                  · have HN : Hid (minGo (fun k => x.getD k 0 + bestS (l.drop (rr + 1)) (delC (bitsOf s) k)) (bitsOf s) (k + 1) = y + F d) := by
                      rw [Hid, minGo, if_pos ⟨HB.out, .inr (by rw [HM.out, HY.out, ← HF.out]; exact hlm)⟩, HY.out, HF.out]
                    go_wp2_with fail
                    go_quiet (fail)
                    go_wp2_with fail
                    go_roundw
                    case rel => exact ⟨k + 1, by omega, by go_num, by rw [HN.out], hwx.drewN _⟩
                    case measure => simp [intOf]; omega
                  · have HN : Hid (minGo (fun k => x.getD k 0 + bestS (l.drop (rr + 1)) (delC (bitsOf s) k)) (bitsOf s) (k + 1) = m) := by
                      rw [Hid, minGo, if_neg, HM.out]
                      rw [HM.out, HY.out, ← HF.out]
                      rintro ⟨_, q | q⟩
                      · exact hm0 q
                      · exact hlm q
                    go_wp2_with fail
                    go_quiet (fail)
                    go_wp2_with fail
                    go_roundw
                    case rel => exact ⟨k + 1, by omega, by go_num, by rw [HN.out], hwx.drewN _⟩
                    case measure => simp [intOf]; omega
            · obtain rfl : k = x.length := by have := HL.out; omega
              have HV : Hid (bestN l s = minGo (fun k => x.getD k 0 + bestS (l.drop (rr + 1)) (delC (bitsOf s) k)) (bitsOf s) x.length) := bestN_step HS.out HX.out
              have hbd := bestN_bd hq hn hlt
              rw [← HV.out]
              have hmx := hm.keep hwx (fun q => q)
              obtain ⟨w2, hrun, hm2, hc2⟩ := hmx.put (j := (s : Int)) (c := bestN l s) (by unfold maxLen; omega) (by unfold I64; omega) (by unfold I64; omega)
              have hw2 : Chg Never w w2 := (hw.trans hwx).trans' hc2 (fun k hk hh => by subst hh; exact absurd hk (Nat.lt_irrefl _))
              have hF2 : Hid (FOk l (fun i => if i = (s : Int) then bestN l s else F i) (s + 1)) := fun t ht => by
                by_cases e : t = s
                · subst e; exact if_pos rfl
                · show (if (t : Int) = s then _ else _) = _
                  rw [if_neg (by omega)]
                  exact hF.out t (by omega)
              clear HV hc2 hmx
              go_wp2_with fail
              go_roundw
              case rel => exact ⟨s + 1, _, by omega, by omega, by go_num, hw2, hm2, hF2⟩
              case measure => simp [intOf]; omega
    · have t1 : decide ((s : Int) < wrap64 (2 ^ l.length)) = false := by rw [hpw]; exact decide_eq_false (by omega)
      clear hpw
      go_wp2_with fail
      go_ret
      refine ⟨_, F, rfl, hw, Nat.le_refl _, hm.mono (by omega), ?_⟩
      rw [show 2 ^ l.length = s by omega]
      exact hF.out
end Go.Proofs.YtgabchhplmncnaaDoor
namespace Go.Proofs.YtgabchhplmncnaaDoor
open Go.RowKit

theorem elemOk_ints : ElemOk Tryd.prog 36 3 1 := elemOk_of Tryd.underlying36 (z := .int .i64 0) (b := 8) (by kernel_rfl) rfl (by decide)
/-- what is chosen of a square -/
def matchR (l : List (List Int)) : List Int := chooseS l (bitsOf (2 ^ l.length - 1))
theorem full_cnt {l : List (List Int)} (_hn : l.length ≤ 8) : l.length ≤ cntL (bitsOf (2 ^ l.length - 1)) l.length := by
  rw [cnt_full l.length l.length (Nat.le_refl _)]; exact Nat.le_refl _
/-- the first column that is as cheap as can be -/
theorem choose_hit {row : List Int} {rest : List (List Int)} {left : Nat → Bool} {k : Nat} (hk : k < row.length) (hl : left k = true) (he : row.getD k 0 + bestS rest (delC left k) = bestS (row :: rest) left)
    (hb : ∀ j, j < k → left j = true → row.getD j 0 + bestS rest (delC left j) ≠ bestS (row :: rest) left) : chooseS (row :: rest) left = (k : Int) :: chooseS rest (delC left k) := by
  have hf : (List.range row.length).find? (fun k => left k && row.getD k 0 + bestS rest (delC left k) == bestS (row :: rest) left) = some k := by
    rw [List.find?_range_eq_some]
    refine ⟨by rw [hl, he]; simp, List.mem_range.2 hk, fun i qi => ?_⟩
    cases li : left i with
    | false => rfl
    | true =>
      have := hb i qi li
      simp only [Bool.true_and, Bool.not_eq_true', beq_eq_false_iff_ne, ne_eq]
      exact this
  rw [chooseS, hf]
def MissTo (row : List Int) (rest : List (List Int)) (left : Nat → Bool) (k : Nat) : Prop := ∀ j, j < k → left j = true → row.getD j 0 + bestS rest (delC left j) ≠ bestS (row :: rest) left
theorem MissTo.step {row : List Int} {rest : List (List Int)} {left : Nat → Bool} {k : Nat} (h : MissTo row rest left k) (hk : left k = true → row.getD k 0 + bestS rest (delC left k) ≠ bestS (row :: rest) left) : MissTo row rest left (k + 1) := fun j hj hl => by
  by_cases e : j = k
  · subst e; exact hk hl
  · exact h j (by omega) hl

set_option maxHeartbeats 2000000 in
set_option maxRecDepth 100000 in
theorem choose_any (l : List (List Int)) (v : Value) (w : World) (h : Rdv w Never v l) (hn : l.length ≤ 8) (hq : SqBd l.length l) :
    Calls Tryd.prog 9 #[v] w fun e w' => ∃ r, e = .returned r ∧ Chg Never w w' ∧ Rdv w' (Old w.heap.size) r (matchR l) := by
  have hv := h
  obtain ⟨a, cap, rfl, h1, h2, h3⟩ := rdv_slice h
  unfold maxLen at h2
  have hp1 : 1 ≤ 2 ^ l.length := Nat.two_pow_pos _
  have hp2 : 2 ^ l.length ≤ 256 := Nat.pow_le_pow_right (n := 2) (by decide) hn
  have hpw := pow_wrap hn
  have hst : wrap64 ((2 : Int) ^ l.length - 1) = ((2 ^ l.length - 1 : Nat) : Int) := by
    have e : ((2 : Int) ^ l.length) = ((2 ^ l.length : Nat) : Int) := by rw [Int.natCast_pow]; rfl
    rw [e]
    generalize 2 ^ l.length = p at hp1 hp2
    unfold wrap64; omega
  go_enter Tryd.func9, Tryd.ntmps9
  go_wp2_with fail
  refine (least_any l _ _ hv hn hq).mono ?_
  rintro e w1 ⟨mb, F, rfl, hw1, hmb, hm, hF⟩
  have HF := Lib.hid hF
  clear hF hv
  go_wp2_with fail
  go_loopw [4, 5, 18] (fun st o i wr => ∃ (s k : Nat) (L : List Int), st = .int .i64 s ∧ i = .int .i64 k ∧ k ≤ l.length ∧ s < 2 ^ l.length ∧ L.length = k ∧ Chg Never w1 wr ∧ Own 3 wr (Old w1.heap.size) o L ∧ Hid (k + cntN s = l.length) ∧ Hid (L ++ chooseS (l.drop k) (bitsOf s) = matchR l)) (fun _ _ i _ => l.length - (intOf i).toNat)
  case atStart =>
    refine ⟨2 ^ l.length - 1, 0, [], by first | rfl | (congr 1), rfl, Nat.zero_le _, by omega, rfl, Chg.refl _ _, own_nil _ _ _, ?_, rfl⟩
    rw [Hid, cntN_full hn, Nat.zero_add]
  case round =>
    obtain ⟨s, k, L, rfl, rfl, hk, hs, hL, hc, hown, hcn, hR⟩ := hrel
    clear hpw hst
    by_cases hlt : k < l.length
    · have hs256 : s < 256 := by omega
      obtain ⟨x, hx⟩ : ∃ x, l[k]? = some x := ⟨l[k], by simp [hlt]⟩
      have hxl : x.length = l.length := (hq x (List.mem_of_getElem? hx)).1
      obtain ⟨b, off, xv, rfl, _, _, hcx, hxr⟩ := elems_row h3 hx
      have hcw := hw1.trans hc
      have hcx := hcw.cellNever hcx
      have hxr := hxr.never hcw
      clear h3 h
      obtain ⟨a', cap', rfl, g1, g2, g3⟩ := rdv_slice hxr
      unfold maxLen at g2
      clear hxr
      have hmr := hm.keep hc (fun q => q)
      have HX := Lib.hid hx
      have HL := Lib.hid hxl
      have HD := Lib.hid (drop_eq hx)
      have HS := Lib.hid hs
      have hFs : Hid (F s = bestS (x :: l.drop (k + 1)) (bitsOf s)) := by
        rw [Hid, HF.out s (by have := Nat.two_pow_pos l.length; omega), bestN]
        rw [show l.length - cntN s = k by have := hcn.out; omega, drop_eq hx]
      have hFb : 0 ≤ F s ∧ F s ≤ 800000 := by rw [HF.out s hs]; exact bestN_bd hq hn hs
      clear hx hxl hs
      go_wp2_with fail
      go_loopw [4, 5, 24] (fun st u i wx => ∃ j : Nat, j ≤ l.length ∧ i = .int .i64 j ∧ st = .int .i64 s ∧ Chg Never wr wx ∧ Own 3 wx (Old w1.heap.size) u L ∧ Hid (MissTo x (l.drop (k + 1)) (bitsOf s) j)) (fun _ _ i _ => l.length - (intOf i).toNat)
      case atStart => exact ⟨0, Nat.zero_le _, rfl, rfl, Chg.refl _ _, hown, fun j hj => absurd hj (Nat.not_lt_zero j)⟩
      case round =>
        obtain ⟨j, hj, rfl, rfl, hwx, hown, hM⟩ := hrel
        rename World => wx
        by_cases hjl : j < l.length
        · have hbt := bits_at64 s hs256 j (by omega)
          obtain ⟨y, hy⟩ : ∃ y, x[j]? = some y := ⟨x[j]'(by rw [HL.out]; exact hjl), by simp [HL.out ▸ hjl]⟩
          obtain ⟨b', off', rfl, _, hcy, hyi⟩ := elems_ints g3 hy
          have hcy := hwx.cellNever hcy
          have hyb := (hq x (List.mem_of_getElem? HX.out)).2 y (List.mem_of_getElem? hy)
          have hyd : x.getD j 0 = y := by rw [List.getD_eq_getElem?_getD, hy]; rfl
          have hjx : j < x.length := by rw [HL.out]; exact hjl
          have HY := Lib.hid hyd
          clear g3 hy hyd
          cases hb : s.testBit j with
          | false =>
            have hM2 : Hid (MissTo x (l.drop (k + 1)) (bitsOf s) (j + 1)) := hM.out.step (fun q => by unfold bitsOf at q; rw [hb] at q; cases q)
            rw [hb] at hbt
            clear hb hcx
            go_wp2_with fail
            go_quiet (fail)
            go_wp2_with fail
            go_roundw
            case rel => exact ⟨j + 1, by omega, by go_num, rfl, hwx.drewN _, hown.never ((Chg.refl _ _).drewN _), hM2⟩
            case measure => simp [intOf]; omega
          | true =>
            rw [hb] at hbt
            have hbo : bitsOf s j = true := hb
            obtain ⟨d, hds, hdl, hFd, hF0, hF8, hsd⟩ := del_step hq hn HS.out (by omega) hb hcn.out (fun d hd => HF.out d (Nat.lt_trans hd HS.out))
            have hlk : ∀ q, (Instr.lookup 45 (.map (some mb)) (.int .i64 (d : Int)) false).run Tryd.prog (wx.drewN q) = .ok (.int .i64 (F d)) (wx.drewN q) := fun q => (hmr.keep (hwx.drewN q) (fun q => q)).look (j := (d : Int)) (by unfold I64; omega)
            have hlk2 : ∀ q, (Instr.lookup 45 (.map (some mb)) (.int .i64 (s : Int)) false).run Tryd.prog (wx.drewN q) = .ok (.int .i64 (F s)) (wx.drewN q) := fun q => (hmr.keep (hwx.drewN q) (fun q => q)).look (j := (s : Int)) (by unfold I64; omega)
            have hsum : wrap64 (y + F d) = y + F d := by unfold wrap64; omega
            have HFD := Lib.hid hFd
            have HBO := Lib.hid hbo
            by_cases hit : y + F d = F s
            · have ht : (y + F d == F s) = true := by simp [hit]
              have hch : Hid (chooseS (x :: l.drop (k + 1)) (bitsOf s) = (j : Int) :: chooseS (l.drop (k + 1)) (bitsOf d)) := by
                rw [Hid, choose_hit hjx hbo (by rw [HY.out, ← HFD.out, hit, hFs.out]) hM.out, ← hsd, bits_del hs256 (by omega) hbo]
              have hcd : Hid (k + 1 + cntN d = l.length) := by
                have := (cntN_del hs256 (k := j) (by omega) hbo).1
                have := hcn.out
                rw [hsd] at *
                unfold Hid; omega
              clear hit hb hbo hFd hcx hsd
              go_wp2_with fail
              go_quiet (fail)
              have hown2 := hown.never ((Chg.refl Never wx).drewN nq)
              have hc2 := hc.trans (hwx.drewN nq)
              have hji : I64 (j : Int) := by unfold I64; omega
              clear hown hlk hlk2
              go_wp2_with (at_builtin; refine wpList_push (by rfl) _ _ 36 (by rfl) elemOk_ints (O := Old w1.heap.size) (l := L) (y := (j : Int)) (by rfl) (by rfl) (by simp) hown2 ⟨rfl, hji⟩ (old_lt hc2) (by omega) ?_; intro v' w2 hown3 hc3 _)
              have hc4 := own_step hc2 hown2 hc3
              clear hc3 hown2 hc2 hwx hcw hc
              go_wp2_with fail
              go_roundw
              case rel =>
                refine ⟨d, k + 1, L ++ [(j : Int)], by first | rfl | (congr 1), by go_num, by omega, by have := HS.out; omega, by simp; omega, hc4, hown3, hcd.out, ?_⟩
                have e := hR.out
                rw [HD.out, hch.out] at e
                rw [Hid, List.append_assoc]
                exact e
              case measure => simp [intOf]; omega
            · have ht : (y + F d == F s) = false := by simp [hit]
              have hM2 : Hid (MissTo x (l.drop (k + 1)) (bitsOf s) (j + 1)) := hM.out.step (fun _ => by rw [HY.out, ← HFD.out, ← hFs.out]; exact hit)
              clear hit hb hbo hFd hcx hsd
              go_wp2_with fail
              go_quiet (fail)
              go_wp2_with fail
              go_roundw
              case rel => exact ⟨j + 1, by omega, by go_num, rfl, hwx.drewN _, hown.never ((Chg.refl _ _).drewN _), hM2⟩
              case measure => simp [intOf]; omega
        · exfalso
          obtain ⟨q, q1, q2, q3, _⟩ := best_step (n := l.length) (left := bitsOf s) (hq.ok |> fun hh => (show SqOk l.length (x :: l.drop (k + 1)) by rw [← HD.out]; exact fun r hr => hh r (List.mem_of_mem_drop hr))) (by
            rw [List.length_drop]
            have := hcn.out
            unfold cntN at this
            rw [cnt_beyond HS.out 8 hn] at this
            omega)
          exact hM.out q (by omega) q2 q3.symm
    · obtain rfl : k = l.length := by omega
      have hR' := hR.out
      rw [List.drop_length, chooseS, List.append_nil] at hR'
      subst hR'
      clear hcn hR
      go_wp2_with fail
      go_ret
      exact ⟨_, rfl, hw1.trans hc, hown.rdv.sub (fun k _ hk => Nat.lt_of_lt_of_le hk hw1.size)⟩
end Go.Proofs.YtgabchhplmncnaaDoor
namespace Go.Proofs.YtgabchhplmncnaaDoor
open Go.RowKit

/-- the block B has so many cells of one kind: at each place what g says -/
def ValRow (e : TypeId) (B : Nat) (wr : World) (len : Nat) (g : Nat → Value) : Prop :=
  ∃ c : Array Value, wr.heap[B]? = some (.cells c e (0, 0)) ∧ c.size = len ∧ ∀ k, k < len → c[k]? = some (g k)
theorem ValRow.cell {e : TypeId} {B : Nat} {wr : World} {len : Nat} {g : Nat → Value} (h : ValRow e B wr len g) {k : Nat} (hk : k < len) : wr.cell? ⟨B, k, none⟩ = some (g k) := by
  obtain ⟨c, h1, h2, h3⟩ := h
  simp only [World.cell?, h1]
  exact h3 k hk
theorem ValRow.lt {e : TypeId} {B : Nat} {wr : World} {len : Nat} {g : Nat → Value} (h : ValRow e B wr len g) : B < wr.heap.size := by
  obtain ⟨c, h1, _⟩ := h
  exact (Array.getElem?_eq_some_iff.1 h1).1
theorem ValRow.free {e : TypeId} {B : Nat} {wr : World} {len : Nat} {g : Nat → Value} (h : ValRow e B wr len g) (k : Nat) : wr.frozen? ⟨B, k, none⟩ = false := by
  obtain ⟨c, h1, h2, h3⟩ := h
  simp [World.frozen?, h1]
theorem ValRow.keep {e : TypeId} {B : Nat} {wr w' : World} {len : Nat} {g : Nat → Value} {O : Nat → Prop} (h : ValRow e B wr len g) (hc : Chg O wr w') (hB : ¬ O B) : ValRow e B w' len g := by
  obtain ⟨c, h1, h2⟩ := h
  refine ⟨c, ?_, h2⟩
  rw [hc.block B (Array.getElem?_eq_some_iff.1 h1).1 hB]
  exact h1
theorem ValRow.set {e : TypeId} {B : Nat} {wr : World} {len : Nat} {f : Nat → Value} (h : ValRow e B wr len f) {k : Nat} (hk : k < len) (b : Value) :
    ValRow e B (wr.setCell ⟨B, k, none⟩ b) len (fun j => if j = k then b else f j) := by
  obtain ⟨c, h1, h2, h3⟩ := h
  refine ⟨c.setIfInBounds k b, ?_, by simpa using h2, ?_⟩
  · simp [World.setCell, Array.getElem?_modify, h1]
  · intro j hj
    show _ = some (if j = k then b else f j)
    rw [Array.getElem?_setIfInBounds]
    by_cases e : j = k
    · subst e; simp [h2, hj]
    · rw [if_neg (fun h => e h.symm), if_neg e]; exact h3 j hj
theorem ValRow.other {e : TypeId} {B : Nat} {wr : World} {len : Nat} {f : Nat → Value} (h : ValRow e B wr len f) {p : Addr} (hp : p.block ≠ B) (v : Value) : ValRow e B (wr.setCell p v) len f :=
  h.keep (O := fun k => k = p.block) ((Chg.refl (fun k => k = p.block) wr).setCell (p := p) (.inr rfl) v) (fun h => hp h.symm)
theorem ValRow.congr {e : TypeId} {B : Nat} {wr : World} {len : Nat} {f g : Nat → Value} (h : ValRow e B wr len f) (hg : ∀ k, k < len → g k = f k) : ValRow e B wr len g := by
  obtain ⟨c, h1, h2, h3⟩ := h
  exact ⟨c, h1, h2, fun k hk => by rw [hg k hk]; exact h3 k hk⟩
/-- what make([]T, n) has made, T of one cell -/
theorem valRow_made {e : TypeId} {z : Value} (hz : z.cells = #[z]) {w1 : World} {B len : Nat} (h : w1.ownsRow 0 e 1 (.slice (some ⟨B, 0, none⟩) len len) len (madeCells z.cells (len * 1)).toList) : ValRow e B w1 len fun _ => z := by
  obtain ⟨_, hx⟩ := h
  rcases hx with ⟨h, _⟩ | ⟨g, cap, cur, hv, _, hh, hn, hm, hcs, htake⟩
  · cases h
  · injection hv with hv1 _ hv3
    injection hv1 with hv1
    injection hv1 with hv1
    subst hv1 hv3
    refine ⟨cur, hh, by simpa using hcs, ?_⟩
    intro k hk
    have e : cur.toList[k]? = (cur.toList.take (len * 1))[k]? := by rw [List.getElem?_take, if_pos (by omega)]
    rw [← Array.getElem?_toList, e, htake]
    simp [madeCells, hz, hk, Nat.mod_one]
end Go.Proofs.YtgabchhplmncnaaDoor
namespace Go.Proofs.YtgabchhplmncnaaDoor
open Go.RowKit

theorem own_out {α : Type} [Dat α] {e : TypeId} {w : World} {O : Nat → Prop} {v : Value} {l : List α} (h : Own e w O v l) : ∀ k, v.ownBlock = some k → ¬ O k := by
  obtain ⟨_, _, q, _⟩ := h
  exact q
end Go.Proofs.YtgabchhplmncnaaDoor
namespace Go.Proofs.YtgabchhplmncnaaDoor
open Go.RowKit

theorem elemOk_pair : ElemOk Tryd.prog 27 32 2 := elemOk_of Tryd.underlying27 (z := .agg #[.int .i64 0, .int .i64 0]) (b := 16) (by kernel_rfl) rfl (by decide)
/-- the costs' rows, of which row i is being built -/
structure CostRows (A B : List (List ByteArray)) (BB : Nat) (wr : World) (i : Nat) (g : Nat → Value) : Prop where
  row : ValRow 36 BB wr (A.length + B.length) g
  done : ∀ j, j < i → Rdv wr (fun x => x = BB) (g j) (rowOf A B j)
  rest : ∀ j, i ≤ j → j < A.length + B.length → g j = .slice none 0 0
theorem rows_rdv {A B : List (List ByteArray)} {BB : Nat} {wr : World} {g : Nat → Value} (h : CostRows A B BB wr (A.length + B.length) g) (hl : A.length + B.length ≤ 8) : Rdv wr Never (.slice (some ⟨BB, 0, none⟩) (A.length + B.length) (A.length + B.length)) (costsOf A B) := by
  refine ⟨some ⟨BB, 0, none⟩, A.length + B.length, by rw [costs_len], by rw [costs_len]; exact Nat.le_refl _, by unfold maxLen; omega, ?_⟩
  intro j x hx
  have hj := (List.getElem?_eq_some_iff.1 hx).1
  rw [costs_len] at hj
  unfold costsOf at hx
  rw [List.getElem?_map, List.getElem?_range hj] at hx
  simp only [Option.map_some, Option.some.injEq] at hx
  subst hx
  refine ⟨BB, 0, [g j], rfl, fun q => q, ?_, (h.done j hj).sub (fun _ _ q => q.elim)⟩
  intro q u hq
  match q, hq with
  | 0, hq =>
    simp only [List.getElem?_cons_zero, Option.some.injEq] at hq
    subst hq
    have := h.row.cell hj
    rw [show 0 + j * Dat.n (List Int) + 0 = j by show 0 + j * 1 + 0 = j; omega]
    exact this
def isLeft (b a : Nat) (M : List Int) (j : Nat) : Int → Int := fun c => if c ∈ (M.take j).drop a ∧ 0 ≤ c ∧ c < b then 1 else 0
theorem firsts_stop {a b : Nat} {m : List Int} {j : Nat} (h : a ≤ j) : ((List.range a).take (j + 1)).map (firstsOf b m) = ((List.range a).take j).map (firstsOf b m) := by
  rw [List.take_of_length_le (by rw [List.length_range]; omega), List.take_of_length_le (by rw [List.length_range]; omega)]
theorem left_step {b a : Nat} {M : List Int} {j : Nat} {c : Int} (hx : M[j]? = some c) (ha : a ≤ j) (h0 : 0 ≤ c) (hb : c < b) (F : Int → Int) (h : ∀ z, F z = isLeft b a M j z) : ∀ z, (if z = c then 1 else F z) = isLeft b a M (j + 1) z := fun z => by
  have e : (M.take (j + 1)).drop a = (M.take j).drop a ++ [c] := by
    have hj := (List.getElem?_eq_some_iff.1 hx).1
    rw [List.take_add_one, hx, Option.toList_some, List.drop_append_of_le_length (by rw [List.length_take]; omega)]
  unfold isLeft
  rw [e]
  by_cases q : z = c
  · subst q
    rw [if_pos rfl, if_pos ⟨by simp, h0, hb⟩]
  · rw [if_neg q, h z]
    unfold isLeft
    congr 1
    simp [q]
theorem left_same {b a : Nat} {M : List Int} {j : Nat} {c : Int} (hx : M[j]? = some c) (hn : j < a ∨ ¬ c < b) : ∀ z, isLeft b a M (j + 1) z = isLeft b a M j z := fun z => by
  unfold isLeft
  have hj := (List.getElem?_eq_some_iff.1 hx).1
  rcases hn with h | h
  · rw [List.drop_of_length_le (by rw [List.length_take]; omega), List.drop_of_length_le (by rw [List.length_take]; omega)]
  · by_cases ha : j < a
    · rw [List.drop_of_length_le (by rw [List.length_take]; omega), List.drop_of_length_le (by rw [List.length_take]; omega)]
    · have e : (M.take (j + 1)).drop a = (M.take j).drop a ++ [c] := by
        rw [List.take_add_one, hx, Option.toList_some, List.drop_append_of_le_length (by rw [List.length_take]; omega)]
      rw [e]
      congr 1
      by_cases q : z = c
      · subst q; simp [h]
      · simp [q]
set_option maxHeartbeats 4000000 in
set_option maxRecDepth 100000 in
theorem range_any (p q : List (List Change)) (vp vq : Value) (w : World) (hp : Rdv w Never vp p) (hq : Rdv w Never vq q) (m : Int) (hm : w.cell? ⟨0, 0, none⟩ = some (.int .i64 m)) :
    Calls Tryd.prog 4 #[vp, vq] w fun e w' => ∃ r, e = .returned (.tuple #[r, errV (rangeFault p q)]) ∧ Chg Never w w' ∧ Rdv w' Never r (rangeL p q) := by
  have hp0 := hp
  have hq0 := hq
  obtain ⟨a0, ca, rfl, a1, a2, -⟩ := rdv_slice hp
  obtain ⟨b0, cb, rfl, b1, b2, -⟩ := rdv_slice hq
  unfold maxLen at a2 b2
  by_cases h4 : 4 < p.length ∨ 4 < q.length
  · have HF : Hid (rangeFault p q = 3) := if_pos h4
    have HR : Hid (rangeL p q = []) := if_neg (by rw [HF.out]; decide)
    by_cases h4a : 4 < p.length
    · have t1 : decide ((4 : Int) < (p.length : Int)) = true := decide_eq_true (by omega)
      go_enter Tryd.func4, Tryd.ntmps4
      go_wp2_with fail
      go_ret2
      exact ⟨_, by rw [HF.out, errV_pos (by decide)]; rfl, Chg.refl _ _, by rw [HR.out]; exact rdv_nil _ _⟩
    · have t1 : decide ((4 : Int) < (p.length : Int)) = false := decide_eq_false (by omega)
      have t2 : decide ((4 : Int) < (q.length : Int)) = true := decide_eq_true (by omega)
      go_enter Tryd.func4, Tryd.ntmps4
      go_wp2_with fail
      go_ret2
      exact ⟨_, by rw [HF.out, errV_pos (by decide)]; rfl, Chg.refl _ _, by rw [HR.out]; exact rdv_nil _ _⟩
  · have t1 : decide ((4 : Int) < (p.length : Int)) = false := decide_eq_false (by omega)
    have t2 : decide ((4 : Int) < (q.length : Int)) = false := decide_eq_false (by omega)
    have HF : Hid (rangeFault p q = firstOf (fun c => (patchFault c).2) (p ++ q)) := if_neg h4
    have HTP : Hid (textsF p = firstOf (fun c => (patchFault c).2) p) := if_neg (by omega)
    have HTQ : Hid (textsF q = firstOf (fun c => (patchFault c).2) q) := if_neg (by omega)
    have hpl : p.length ≤ 4 := by omega
    have hql : q.length ≤ 4 := by omega
    go_enter Tryd.func4, Tryd.ntmps4
    go_wp2_with fail
    refine (rtexts_any p _ _ hp0 m hm).mono ?_
    rintro e w1 ⟨r1, rfl, hc1, hr1⟩
    by_cases hz1 : textsF p = 0
    · have HZ1 := Lib.hid hz1
      rw [show textsR p = p.map rtextOf from if_pos hz1] at hr1
      rw [hz1, errV_zero]
      clear hz1
      obtain ⟨ra, rca, rfl, -, -, -⟩ := rdv_slice hr1
      go_wp2_with fail
      refine (rtexts_any q _ _ (hq0.never hc1) m (hc1.cellNever hm)).mono ?_
      rintro e w2 ⟨r2, rfl, hc2, hr2⟩
      have hw2 := hc1.trans hc2
      by_cases hz2 : textsF q = 0
      · have HZ2 := Lib.hid hz2
        rw [show textsR q = q.map rtextOf from if_pos hz2] at hr2
        rw [hz2, errV_zero]
        clear hz2
        obtain ⟨rb, rcb, rfl, -, -, -⟩ := rdv_slice hr2
        have HFZ : Hid (rangeFault p q = 0) := by rw [Hid, HF.out, firstOf_app, ← HTP.out, HZ1.out, if_pos rfl, ← HTQ.out, HZ2.out]
        have hall : ∀ c, (c ∈ p ∨ c ∈ q) → (rtextOf c).length ≤ 99000 := fun c hc => by
          have h := HFZ.out
          rw [HF.out, firstOf_zero] at h
          unfold rtextOf
          rw [List.length_map]
          exact linesG_few (h c (List.mem_append.2 hc))
        have hlA : ∀ x ∈ p.map rtextOf, x.length ≤ 99000 := fun x hx => by
          obtain ⟨c, hc, rfl⟩ := List.mem_map.1 hx
          exact hall c (.inl hc)
        have hlB : ∀ x ∈ q.map rtextOf, x.length ≤ 99000 := fun x hx => by
          obtain ⟨c, hc, rfl⟩ := List.mem_map.1 hx
          exact hall c (.inr hc)
        have HRL : Hid (rangeL p q = rangeOut p.length q.length (rangeM p q)) := if_pos HFZ.out
        have HM : Hid (rangeM p q = matchR (costsOf (p.map rtextOf) (q.map rtextOf))) := rfl
        have eA : (p.map rtextOf).length = p.length := List.length_map ..
        have eB : (q.map rtextOf).length = q.length := List.length_map ..
        have hvA := (hr1.sub (O' := Never) (fun _ _ q => q.elim)).never hc2
        have hvB := hr2.sub (O' := Never) (fun _ _ q => q.elim)
        generalize p.map rtextOf = A at hlA HM eA hvA
        generalize q.map rtextOf = B at hlB HM eB hvB
        rw [eA] at hvA
        rw [eB] at hvB
        rw [eB]
        obtain ⟨n, hN⟩ : ∃ n, p.length + q.length = n := ⟨_, rfl⟩
        have HN := Lib.hid hN
        have hn8 : n ≤ 8 := by omega
        have hAB : A.length + B.length = n := by omega
        have eN : (p.length : Int) + (q.length : Int) = (n : Int) := by omega
        have sN : IntKind.i64.wrap (n : Int) = n := IntWalk.i64_in _ (by omega)
        obtain ⟨ib, ib1, ib2, ib3, ib4⟩ := info_parts (show (Tryd.prog.info? 36).map (fun i => (i.zero, i.size, i.bytes)) = some (some (.slice none 0 0), 1, 24) by kernel_rfl)
        clear hr1 hr2 hp hq hp0 hq0 hc1 hc2 hN
        go_wp2_with (at_make; refine wpList_make_full _ rfl _ _ 42 rfl 0 36 ib (.slice none 0 0) 1 Tryd.underlying42 ib1 ib2 ib3 .i64 .i64 _ _ n rfl rfl rfl rfl (by rw [ib4]; omega) (by unfold maxLen; omega) (Nat.zero_le _) ?_; intro w3 hown0 hgrow)
        have hT := valRow_made (z := .slice none 0 0) rfl hown0
        have hc3 := (Chg.refl Never w2).trans' (Chg.of_grown hgrow) (fun _ _ h => by cases h)
        have hBlt := hT.lt
        obtain ⟨BB, hBB⟩ : ∃ BB, w2.heap.size = BB := ⟨_, rfl⟩
        have hBBw : w2.heap.size ≤ BB := Nat.le_of_eq hBB
        rw [hBB] at hT hBlt ⊢
        have hC0 : CostRows A B BB w3 0 (fun _ => .slice none 0 0) := ⟨by rw [hAB]; exact hT, fun j hj => by omega, fun _ _ _ => rfl⟩
        clear hown0 hgrow ib1 ib2 ib3 ib4 hT hBB
        go_wp2_with fail
        go_loopw [52] (fun iv wr => ∃ (i : Nat) (g : Nat → Value), i ≤ n ∧ iv = .int .i64 i ∧ Chg Never w2 wr ∧ CostRows A B BB wr i g ∧ BB < wr.heap.size) (fun iv _ => n - (intOf iv).toNat)
        case atStart => exact ⟨0, _, Nat.zero_le _, rfl, hc3, hC0, hBlt⟩
        case round =>
          clear hC0 hc3 hBlt
          obtain ⟨i, g, hi, rfl, hc, hC, hBlt2⟩ := hrel
          rename World => wr
          by_cases hlt : i < n
          · have hrow := hC.row
            rw [hAB] at hrow
            have hV0 : ValRow 36 BB wr n (fun j => if j = i then .slice none 0 0 else g j) := hrow.congr (fun j hj => by
              by_cases q : j = i
              · subst q; rw [if_pos rfl, hC.rest j (Nat.le_refl _) (by omega)]
              · rw [if_neg q])
            clear hrow
            go_wp2_with fail
            go_loopw [56] (fun kv wi => ∃ (k : Nat) (vi : Value), k ≤ n ∧ kv = .int .i64 k ∧ Chg (fun x => x = BB ∨ wr.heap.size ≤ x) wr wi ∧ ValRow 36 BB wi n (fun j => if j = i then vi else g j) ∧ Own 3 wi (fun x => x < wr.heap.size) vi (((List.range n).take k).map (rangeCost A B i))) (fun kv _ => n - (intOf kv).toNat)
            case atStart => exact ⟨0, _, Nat.zero_le _, rfl, Chg.refl _ _, hV0, own_nil _ _ _⟩
            case round =>
              clear hV0
              obtain ⟨k, vi, hk, rfl, hci, hval, hown⟩ := hrel
              rename World => wi
              obtain ⟨va, vn, vc, rfl⟩ := own_isSlice hown
              have hw2i : Chg Never w2 wi := hc.trans' hci (fun x hx hh => by
                rcases hh with hh | hh
                · omega
                · have := hc.size; omega)
              by_cases hkt : k < n
              · have cB := hval.cell hlt
                rw [if_pos rfl] at cB
                have ib1 : (i : Int) < (n : Int) := by omega
                have hyi : I64 (rangeCost A B i k) := by have := cost_bd hlA hlB i k; unfold I64; omega
                have hrt : Hid (((List.range n).take (k + 1)).map (rangeCost A B i) = ((List.range n).take k).map (rangeCost A B i) ++ [rangeCost A B i k]) := by
                  have := row_take (a := A) (b := B) (i := i) (k := k) (by rw [hAB]; exact hkt)
                  rw [hAB] at this
                  exact this
                have hlen : (((List.range n).take k).map (rangeCost A B i)).length ≤ 1000000000 := by rw [List.length_map, List.length_take, List.length_range]; omega
                go_wp2_with fail
                refine wp_region_held_drew (S := fun w' => Chg (fun x => x = BB ∨ wr.heap.size ≤ x) wr w') (by kernel_rfl) hci.drew (fun hH => ?_)
                refine' wpAnyH_take (i := 0) ?hi0 (by kernel_rfl) (by kernel_rfl) (by kernel_rfl) ?hQ0 (Or.inl ⟨?hw0, ?hy0⟩) (by assumption) ?_
                case hi0 => (simp only [List.getElem?_toArray, List.getElem?_cons_zero]; rfl)
                case hQ0 => exact fun _ _ _ h => h
                case hw0 => rfl
                case hy0 => (intro w' hSw; (try dsimp only at hSw); go_simp; all_goals with_reducible rfl)
                try simp only [Act.put, List.setIfInBounds_toArray, List.set_cons_zero, List.set_cons_succ]
                refine' wpAnyH_take (i := 1) ?hi1 (by kernel_rfl) (by kernel_rfl) (by kernel_rfl) ?hQ1 (Or.inl ⟨?hw1, ?hy1⟩) (by assumption) ?_
                case hi1 => (simp only [List.getElem?_toArray, List.getElem?_cons_succ, List.getElem?_cons_zero]; rfl)
                case hQ1 => exact fun _ _ _ h => h
                case hw1 => rfl
                case hy1 => (intro w' hSw; (try dsimp only at hSw); go_simp; all_goals with_reducible rfl)
                try simp only [Act.put, List.setIfInBounds_toArray, List.set_cons_zero, List.set_cons_succ]
                refine' wpAnyH_take (i := 2) ?hi2 (by kernel_rfl) (by kernel_rfl) (by kernel_rfl) ?hQ2 (Or.inl ⟨?hw2, ?hy2⟩) (by assumption) ?_
                case hi2 => (simp only [List.getElem?_toArray, List.getElem?_cons_succ, List.getElem?_cons_zero]; rfl)
                case hQ2 => exact fun _ _ _ h => h
                case hw2 => rfl
                case hy2 => (intro w' hSw; (try dsimp only at hSw); go_simp; all_goals with_reducible rfl)
                try simp only [Act.put, List.setIfInBounds_toArray, List.set_cons_zero, List.set_cons_succ]
                refine' wpAnyH_take (i := 3) ?hi3 (by kernel_rfl) (by kernel_rfl) (by kernel_rfl) ?hQ3 (Or.inl ⟨?hw3, ?hy3⟩) (by assumption) ?_
                case hi3 => (simp only [List.getElem?_toArray, List.getElem?_cons_succ, List.getElem?_cons_zero]; rfl)
                case hQ3 => exact fun _ _ _ h => h
                case hw3 => rfl
                case hy3 => (intro w' hSw; (try dsimp only at hSw); go_simp; all_goals with_reducible rfl)
                try simp only [Act.put, List.setIfInBounds_toArray, List.set_cons_zero, List.set_cons_succ]
                refine' wpAnyH_take (i := 4) ?hi4 (by kernel_rfl) (by kernel_rfl) (by kernel_rfl) ?hQ4 (Or.inl ⟨?hw4, ?hy4⟩) (by assumption) ?_
                case hi4 => (simp only [List.getElem?_toArray, List.getElem?_cons_succ, List.getElem?_cons_zero]; rfl)
                case hQ4 => exact fun _ _ _ h => h
                case hw4 => rfl
                case hy4 => (intro w' hSw; (try dsimp only at hSw); go_simp; all_goals with_reducible rfl)
                try simp only [Act.put, List.setIfInBounds_toArray, List.set_cons_zero, List.set_cons_succ]
                refine' wpAnyH_take (i := 6) ?hi6 (by kernel_rfl) (by kernel_rfl) (by kernel_rfl) ?hQ6 (Or.inl ⟨?hw6, ?hy6⟩) (by assumption) ?_
                case hi6 => (simp only [List.getElem?_toArray, List.getElem?_cons_succ, List.getElem?_cons_zero]; rfl)
                case hQ6 => exact fun _ _ _ h => h
                case hw6 => rfl
                case hy6 => (intro w' hSw; (try dsimp only at hSw); go_simp; all_goals with_reducible rfl)
                try simp only [Act.put, List.setIfInBounds_toArray, List.set_cons_zero, List.set_cons_succ]
                refine' wpAnyH_take (i := 7) ?hi7 (by kernel_rfl) (by kernel_rfl) (by kernel_rfl) ?hQ7 (Or.inl ⟨?hw7, ?hy7⟩) (by assumption) ?_
                case hi7 => (simp only [List.getElem?_toArray, List.getElem?_cons_succ, List.getElem?_cons_zero]; rfl)
                case hQ7 => exact fun _ _ _ h => h
                case hw7 => rfl
                case hy7 => (intro w' hSw; (try dsimp only at hSw); go_simp; all_goals with_reducible rfl)
                try simp only [Act.put, List.setIfInBounds_toArray, List.set_cons_zero, List.set_cons_succ]
                refine' wpAnyH_take (i := 8) ?hi8 (by kernel_rfl) (by kernel_rfl) (by kernel_rfl) ?hQ8 (Or.inl ⟨?hw8, ?hy8⟩) (by assumption) ?_
                case hi8 => (simp only [List.getElem?_toArray, List.getElem?_cons_succ, List.getElem?_cons_zero]; rfl)
                case hQ8 => exact fun _ _ _ h => h
                case hw8 => rfl
                case hy8 => (intro w' hSw; (try dsimp only at hSw); go_simp; all_goals with_reducible rfl)
                try simp only [Act.put, List.setIfInBounds_toArray, List.set_cons_zero, List.set_cons_succ]
                refine' wpAnyH_take (i := 9) ?hi9 (by kernel_rfl) (by kernel_rfl) (by kernel_rfl) ?hQ9 (Or.inl ⟨?hw9, ?hy9⟩) (by assumption) ?_
                case hi9 => (simp only [List.getElem?_toArray, List.getElem?_cons_succ, List.getElem?_cons_zero]; rfl)
                case hQ9 => exact fun _ _ _ h => h
                case hw9 => rfl
                case hy9 => (intro w' hSw; (try dsimp only at hSw); go_simp; all_goals with_reducible rfl)
                try simp only [Act.put, List.setIfInBounds_toArray, List.set_cons_zero, List.set_cons_succ]
                refine wpAnyH_ready (rs := [5, 10]) (by kernel_rfl) (by simp) ?_
                refine AllReadyH.cons rfl (fun K hK => ?_) (AllReadyH.cons rfl (fun K hK => ?_) AllReadyH.nil)
                · go_simp
                  refine hK.out _ _ (by assumption) (fun hH => ?_)
                  clear hK K
                  try simp only [Act.put, List.setIfInBounds_toArray, List.set_cons_zero, List.set_cons_succ]
                  refine wpAnyH_ready (rs := [10]) (by kernel_rfl) (by simp) ?_
                  refine AllReadyH.cons rfl (fun K hK => ?_) AllReadyH.nil
                  go_simp
                  go_at_call 8
                  refine (cost_is A B i k _ _ _ (hvA.never hw2i.drew) (hvB.never hw2i.drew) hlA hlB (by omega) (by omega)).mono ?_
                  rintro e wq ⟨rfl, hcq⟩
                  try go_wp2_with fail
                  have hcq0 : Chg Never wi wq := (Chg.refl Never wi).drew.trans hcq
                  have hSq : Chg (fun x => x = BB ∨ wr.heap.size ≤ x) wr wq := hci.trans (hcq0.mono (fun _ _ h => h.elim))
                  refine hK.out _ _ hSq (fun hH => ?_)
                  clear hK K hcq
                  try simp only [Act.put, List.setIfInBounds_toArray, List.set_cons_zero, List.set_cons_succ]
                  have cBq := hcq0.cellNever cB
                  have cBa := ((Chg.refl Never wq).alloc (.cells #[.int .i64 (rangeCost A B i k)] 3)).cellNever cBq
                  have hownq := hown.never hcq0
                  have hValq := hval.keep hcq0 (fun h => h)
                  have hOq : ∀ x, x < wr.heap.size → x < wq.heap.size := fun x hx => Nat.lt_of_lt_of_le hx hSq.size
                  refine wpAnyH_ready (rs := [11]) (by kernel_rfl) (by simp) ?_
                  refine AllReadyH.cons rfl (fun K hK => ?_) AllReadyH.nil
                  go_simp
                  refine hK.out _ _ (hSq.alloc _) (fun hH => ?_)
                  clear hK K
                  try simp only [Act.put, List.setIfInBounds_toArray, List.set_cons_zero, List.set_cons_succ]
                  refine wpAnyH_ready (rs := [12]) (by kernel_rfl) (by simp) ?_
                  refine AllReadyH.cons rfl (fun K hK => ?_) AllReadyH.nil
                  refine step_push (by rfl) _ _ 36 (by rfl) elemOk_ints (O := fun x => x < wr.heap.size) (l := ((List.range n).take k).map (rangeCost A B i)) (y := rangeCost A B i k) (by rfl) (by rfl) (by simp) hownq ⟨rfl, hyi⟩ hOq hlen ?_
                  intro v' w5 hown5 hc5 hk5
                  obtain ⟨ad, nn, cc, rfl⟩ := own_slice hk5
                  have hS5 : Chg (fun x => x = BB ∨ wr.heap.size ≤ x) wr w5 := hSq.trans (hc5.mono (fun x _ hx => .inr (by have := own_out hownq x hx; omega)))
                  have hnB : ¬ OwnB (.slice va vn vc) BB := fun hx => own_out hownq BB hx hBlt2
                  refine hK.out _ _ hS5 (fun _ => ?_)
                  clear hK K
                  try simp only [Act.put, List.setIfInBounds_toArray, List.set_cons_zero, List.set_cons_succ]
                  have cB5 := hc5.cell cBq hnB
                  have hVal5 := hValq.keep hc5 hnB
                  have fB5 := hVal5.free i
                  clear cB cBq cBa hcq0 hownq hValq hSq hval hown
                  refine' wpAnyH_take (i := 13) ?hi13 (by kernel_rfl) (by kernel_rfl) (by kernel_rfl) ?hQ13 (Or.inl ⟨?hw13, ?hy13⟩) (by assumption) ?_
                  case hi13 => (simp only [List.getElem?_toArray, List.getElem?_cons_succ, List.getElem?_cons_zero]; rfl)
                  case hQ13 => exact fun _ _ _ h => h
                  case hw13 => rfl
                  case hy13 => (intro w' hSw; (try dsimp only at hSw); go_simp; all_goals with_reducible rfl)
                  try simp only [Act.put, List.setIfInBounds_toArray, List.set_cons_zero, List.set_cons_succ]
                  refine wpAnyH_ready (rs := [14]) (by kernel_rfl) (by simp) ?_
                  refine AllReadyH.cons rfl (fun K hK => ?_) AllReadyH.nil
                  go_simp
                  refine hK.out _ _ (hS5.setCell (.inr (.inl rfl)) _) (fun _ => ?_)
                  clear hK K
                  try simp only [Act.put, List.setIfInBounds_toArray, List.set_cons_zero, List.set_cons_succ]
                  refine wpAnyH_done (by kernel_rfl) ?_ _
                  have hS6 := hS5.setCell (p := ⟨BB, i, none⟩) (.inr (.inl rfl)) (.slice (some ad) nn cc)
                  have hVal6 : ValRow 36 BB (w5.setCell ⟨BB, i, none⟩ (.slice (some ad) nn cc)) n (fun j => if j = i then .slice (some ad) nn cc else g j) := (hVal5.set hlt _).congr (fun j _ => by by_cases q : j = i <;> simp [q])
                  have hown6 := hown5.keep (O' := fun x => x = BB) (O'' := fun x => x < wr.heap.size) ((Chg.refl (fun x => x = BB) w5).setCell (p := ⟨BB, i, none⟩) (.inr rfl) (.slice (some ad) nn cc)) (fun x _ hx => by have h : x = BB := hx; omega) (fun _ _ h => h)
                  clear cB5 fB5 hVal5 hS5 hown5 hc5 hk5
                  go_wp2_with fail
                  go_roundw
                  case rel => exact ⟨k + 1, .slice (some ad) nn cc, by omega, by go_num, hS6, hVal6, by rw [hrt.out]; exact hown6⟩
                  case measure => simp [intOf] <;> omega
                · go_simp
                  go_at_call 8
                  refine (cost_is A B i k _ _ _ (hvA.never hw2i.drew) (hvB.never hw2i.drew) hlA hlB (by omega) (by omega)).mono ?_
                  rintro e wq ⟨rfl, hcq⟩
                  try go_wp2_with fail
                  have hcq0 : Chg Never wi wq := (Chg.refl Never wi).drew.trans hcq
                  have hSq : Chg (fun x => x = BB ∨ wr.heap.size ≤ x) wr wq := hci.trans (hcq0.mono (fun _ _ h => h.elim))
                  refine hK.out _ _ hSq (fun hH => ?_)
                  clear hK K hcq
                  try simp only [Act.put, List.setIfInBounds_toArray, List.set_cons_zero, List.set_cons_succ]
                  have cBq := hcq0.cellNever cB
                  have cBa := ((Chg.refl Never wq).alloc (.cells #[.int .i64 (rangeCost A B i k)] 3)).cellNever cBq
                  have hownq := hown.never hcq0
                  have hValq := hval.keep hcq0 (fun h => h)
                  have hOq : ∀ x, x < wr.heap.size → x < wq.heap.size := fun x hx => Nat.lt_of_lt_of_le hx hSq.size
                  refine wpAnyH_ready (rs := [5, 11]) (by kernel_rfl) (by simp) ?_
                  refine AllReadyH.cons rfl (fun K hK => ?_) (AllReadyH.cons rfl (fun K hK => ?_) AllReadyH.nil)
                  · go_simp
                    refine hK.out _ _ (by assumption) (fun hH => ?_)
                    clear hK K
                    try simp only [Act.put, List.setIfInBounds_toArray, List.set_cons_zero, List.set_cons_succ]
                    refine wpAnyH_ready (rs := [11]) (by kernel_rfl) (by simp) ?_
                    refine AllReadyH.cons rfl (fun K hK => ?_) AllReadyH.nil
                    go_simp
                    refine hK.out _ _ (hSq.alloc _) (fun hH => ?_)
                    clear hK K
                    try simp only [Act.put, List.setIfInBounds_toArray, List.set_cons_zero, List.set_cons_succ]
                    refine wpAnyH_ready (rs := [12]) (by kernel_rfl) (by simp) ?_
                    refine AllReadyH.cons rfl (fun K hK => ?_) AllReadyH.nil
                    refine step_push (by rfl) _ _ 36 (by rfl) elemOk_ints (O := fun x => x < wr.heap.size) (l := ((List.range n).take k).map (rangeCost A B i)) (y := rangeCost A B i k) (by rfl) (by rfl) (by simp) hownq ⟨rfl, hyi⟩ hOq hlen ?_
                    intro v' w5 hown5 hc5 hk5
                    obtain ⟨ad, nn, cc, rfl⟩ := own_slice hk5
                    have hS5 : Chg (fun x => x = BB ∨ wr.heap.size ≤ x) wr w5 := hSq.trans (hc5.mono (fun x _ hx => .inr (by have := own_out hownq x hx; omega)))
                    have hnB : ¬ OwnB (.slice va vn vc) BB := fun hx => own_out hownq BB hx hBlt2
                    refine hK.out _ _ hS5 (fun _ => ?_)
                    clear hK K
                    try simp only [Act.put, List.setIfInBounds_toArray, List.set_cons_zero, List.set_cons_succ]
                    have cB5 := hc5.cell cBq hnB
                    have hVal5 := hValq.keep hc5 hnB
                    have fB5 := hVal5.free i
                    clear cB cBq cBa hcq0 hownq hValq hSq hval hown
                    refine' wpAnyH_take (i := 13) ?hi13 (by kernel_rfl) (by kernel_rfl) (by kernel_rfl) ?hQ13 (Or.inl ⟨?hw13, ?hy13⟩) (by assumption) ?_
                    case hi13 => (simp only [List.getElem?_toArray, List.getElem?_cons_succ, List.getElem?_cons_zero]; rfl)
                    case hQ13 => exact fun _ _ _ h => h
                    case hw13 => rfl
                    case hy13 => (intro w' hSw; (try dsimp only at hSw); go_simp; all_goals with_reducible rfl)
                    try simp only [Act.put, List.setIfInBounds_toArray, List.set_cons_zero, List.set_cons_succ]
                    refine wpAnyH_ready (rs := [14]) (by kernel_rfl) (by simp) ?_
                    refine AllReadyH.cons rfl (fun K hK => ?_) AllReadyH.nil
                    go_simp
                    refine hK.out _ _ (hS5.setCell (.inr (.inl rfl)) _) (fun _ => ?_)
                    clear hK K
                    try simp only [Act.put, List.setIfInBounds_toArray, List.set_cons_zero, List.set_cons_succ]
                    refine wpAnyH_done (by kernel_rfl) ?_ _
                    have hS6 := hS5.setCell (p := ⟨BB, i, none⟩) (.inr (.inl rfl)) (.slice (some ad) nn cc)
                    have hVal6 : ValRow 36 BB (w5.setCell ⟨BB, i, none⟩ (.slice (some ad) nn cc)) n (fun j => if j = i then .slice (some ad) nn cc else g j) := (hVal5.set hlt _).congr (fun j _ => by by_cases q : j = i <;> simp [q])
                    have hown6 := hown5.keep (O' := fun x => x = BB) (O'' := fun x => x < wr.heap.size) ((Chg.refl (fun x => x = BB) w5).setCell (p := ⟨BB, i, none⟩) (.inr rfl) (.slice (some ad) nn cc)) (fun x _ hx => by have h : x = BB := hx; omega) (fun _ _ h => h)
                    clear cB5 fB5 hVal5 hS5 hown5 hc5 hk5
                    go_wp2_with fail
                    go_roundw
                    case rel => exact ⟨k + 1, .slice (some ad) nn cc, by omega, by go_num, hS6, hVal6, by rw [hrt.out]; exact hown6⟩
                    case measure => simp [intOf] <;> omega
                  · go_simp
                    refine hK.out _ _ (hSq.alloc _) (fun hH => ?_)
                    clear hK K
                    try simp only [Act.put, List.setIfInBounds_toArray, List.set_cons_zero, List.set_cons_succ]
                    refine wpAnyH_ready (rs := [5]) (by kernel_rfl) (by simp) ?_
                    refine AllReadyH.cons rfl (fun K hK => ?_) AllReadyH.nil
                    go_simp
                    refine hK.out _ _ (by assumption) (fun hH => ?_)
                    clear hK K
                    try simp only [Act.put, List.setIfInBounds_toArray, List.set_cons_zero, List.set_cons_succ]
                    refine wpAnyH_ready (rs := [12]) (by kernel_rfl) (by simp) ?_
                    refine AllReadyH.cons rfl (fun K hK => ?_) AllReadyH.nil
                    refine step_push (by rfl) _ _ 36 (by rfl) elemOk_ints (O := fun x => x < wr.heap.size) (l := ((List.range n).take k).map (rangeCost A B i)) (y := rangeCost A B i k) (by rfl) (by rfl) (by simp) hownq ⟨rfl, hyi⟩ hOq hlen ?_
                    intro v' w5 hown5 hc5 hk5
                    obtain ⟨ad, nn, cc, rfl⟩ := own_slice hk5
                    have hS5 : Chg (fun x => x = BB ∨ wr.heap.size ≤ x) wr w5 := hSq.trans (hc5.mono (fun x _ hx => .inr (by have := own_out hownq x hx; omega)))
                    have hnB : ¬ OwnB (.slice va vn vc) BB := fun hx => own_out hownq BB hx hBlt2
                    refine hK.out _ _ hS5 (fun _ => ?_)
                    clear hK K
                    try simp only [Act.put, List.setIfInBounds_toArray, List.set_cons_zero, List.set_cons_succ]
                    have cB5 := hc5.cell cBq hnB
                    have hVal5 := hValq.keep hc5 hnB
                    have fB5 := hVal5.free i
                    clear cB cBq cBa hcq0 hownq hValq hSq hval hown
                    refine' wpAnyH_take (i := 13) ?hi13 (by kernel_rfl) (by kernel_rfl) (by kernel_rfl) ?hQ13 (Or.inl ⟨?hw13, ?hy13⟩) (by assumption) ?_
                    case hi13 => (simp only [List.getElem?_toArray, List.getElem?_cons_succ, List.getElem?_cons_zero]; rfl)
                    case hQ13 => exact fun _ _ _ h => h
                    case hw13 => rfl
                    case hy13 => (intro w' hSw; (try dsimp only at hSw); go_simp; all_goals with_reducible rfl)
                    try simp only [Act.put, List.setIfInBounds_toArray, List.set_cons_zero, List.set_cons_succ]
                    refine wpAnyH_ready (rs := [14]) (by kernel_rfl) (by simp) ?_
                    refine AllReadyH.cons rfl (fun K hK => ?_) AllReadyH.nil
                    go_simp
                    refine hK.out _ _ (hS5.setCell (.inr (.inl rfl)) _) (fun _ => ?_)
                    clear hK K
                    try simp only [Act.put, List.setIfInBounds_toArray, List.set_cons_zero, List.set_cons_succ]
                    refine wpAnyH_done (by kernel_rfl) ?_ _
                    have hS6 := hS5.setCell (p := ⟨BB, i, none⟩) (.inr (.inl rfl)) (.slice (some ad) nn cc)
                    have hVal6 : ValRow 36 BB (w5.setCell ⟨BB, i, none⟩ (.slice (some ad) nn cc)) n (fun j => if j = i then .slice (some ad) nn cc else g j) := (hVal5.set hlt _).congr (fun j _ => by by_cases q : j = i <;> simp [q])
                    have hown6 := hown5.keep (O' := fun x => x = BB) (O'' := fun x => x < wr.heap.size) ((Chg.refl (fun x => x = BB) w5).setCell (p := ⟨BB, i, none⟩) (.inr rfl) (.slice (some ad) nn cc)) (fun x _ hx => by have h : x = BB := hx; omega) (fun _ _ h => h)
                    clear cB5 fB5 hVal5 hS5 hown5 hc5 hk5
                    go_wp2_with fail
                    go_roundw
                    case rel => exact ⟨k + 1, .slice (some ad) nn cc, by omega, by go_num, hS6, hVal6, by rw [hrt.out]; exact hown6⟩
                    case measure => simp [intOf] <;> omega
              · obtain rfl : k = n := by omega
                have hrowi : ((List.range k).take k).map (rangeCost A B i) = rowOf A B i := by
                  unfold rowOf
                  rw [hAB, List.take_of_length_le (by simp)]
                rw [hrowi] at hown
                have hC2 : CostRows A B BB wi (i + 1) (fun j => if j = i then .slice va vn vc else g j) := ⟨by rw [hAB]; exact hval, fun j hj => by
                  by_cases q : j = i
                  · subst q
                    rw [if_pos rfl]
                    exact hown.rdv.sub (fun x _ hx => by have h : x = BB := hx; omega)
                  · rw [if_neg q]
                    exact (hC.done j (by omega)).keep hci (fun x hx hh => by
                      rcases hh with hh | hh
                      · exact hh
                      · omega) (fun _ _ h => h), fun j hj hj2 => by rw [if_neg (by omega)]; exact hC.rest j (by omega) hj2⟩
                have hB3 := Nat.lt_of_lt_of_le hBlt2 hci.size
                clear hval hown hC hci hrowi
                go_wp2_with fail
                go_roundw
                case rel => exact ⟨i + 1, _, by omega, by go_num, hw2i, hC2, hB3⟩
                case measure => simp [intOf] <;> omega
          · obtain rfl : i = n := by omega
            have hRows : Rdv wr Never (.slice (some ⟨BB, 0, none⟩) i i) (costsOf A B) := by
              have := rows_rdv (hAB.symm ▸ hC) (by omega)
              rw [hAB] at this
              exact this
            have hch := choose_any (costsOf A B) _ wr hRows (by rw [costs_len]; omega) (costs_bd hlA hlB)
            have hCho := choice_of hlA hlB
            rw [hAB] at hCho
            rw [← HM.out] at hch
            have HCho : Hid (Choice i (rangeM p q)) := by rw [HM.out]; exact hCho
            clear hCho HM hRows hC hBlt2
            generalize rangeM p q = M at hch HCho HRL
            have hch := Lib.hid hch
            have hML : M.length = i := HCho.out.len
            have hmm := @run_makeMap Tryd.prog
            go_wp2_with fail
            refine hch.out.mono ?_
            rintro e w5 ⟨r5, rfl, hc5, hr5⟩
            have hw5 := (hw2.trans hc).trans hc5
            obtain ⟨ma, mcp, rfl, m1, m2, m3⟩ := rdv_slice hr5
            unfold maxLen at m2
            clear hch hr5 hc5
            have hA6 : Chg Never w5 (w5.alloc (.map #[] 0)) := (Chg.refl Never w5).alloc _
            have hm0 := intMap_made w5
            rw [hML]
            go_wp2_with fail
            clear hmm
            obtain ⟨MB, hMB⟩ : ∃ MB, w5.heap.size = MB := ⟨_, rfl⟩
            have hMBw : w5.heap.size ≤ MB := Nat.le_of_eq hMB
            rw [hMB] at hm0 ⊢
            clear hMB
            go_loopw [14, 80] (fun ov jv wr => ∃ (j : Nat) (F : Int → Int), j ≤ i ∧ jv = .int .i64 j ∧ Chg Never w5 wr ∧ IntMap wr MB j F ∧ Own 32 wr (Old (MB + 1)) ov (((List.range p.length).take j).map (firstsOf q.length M)) ∧ Hid (∀ z, F z = isLeft q.length p.length M j z)) (fun _ jv _ => i - (intOf jv).toNat)
            case atStart => exact ⟨0, _, Nat.zero_le _, rfl, hA6, hm0, own_nil _ _ _, fun z => by unfold isLeft; rw [if_neg (by simp)]⟩
            case round =>
              clear hm0 hA6
              obtain ⟨j, F, hj, rfl, hc, hmap, hown, hF⟩ := hrel
              rename World => wr
              obtain ⟨va, vn, vc, rfl⟩ := own_isSlice hown
              by_cases hjl : j < i
              · obtain ⟨c, hx⟩ : ∃ c, M[j]? = some c := ⟨M[j]'(by omega), by simp⟩
                obtain ⟨kc, rfl, hkc⟩ := HCho.out.mem c (List.mem_of_getElem? hx)
                obtain ⟨b, off, rfl, -, cM, hyi⟩ := elems_ints m3 hx
                have cM := hc.cellNever cM
                have ib : (j : Int) < (i : Int) := by omega
                have hgd : M.getD j 0 = (kc : Int) := by rw [List.getD_eq_getElem?_getD, hx]; rfl
                by_cases hjp : j < p.length
                · have tj : decide ((j : Int) < (p.length : Int)) = true := decide_eq_true (by omega)
                  have tjn : decide (j < p.length) = true := decide_eq_true hjp
                  have hF2 : Hid (∀ z, F z = isLeft q.length p.length M (j + 1) z) := fun z => by rw [left_same hx (.inl hjp), hF.out]
                  have hft0 := firsts_take (a := p.length) (b := q.length) (m := M) hjp
                  by_cases hkq : kc < q.length
                  · have tk : decide ((kc : Int) < (q.length : Int)) = true := decide_eq_true (by omega)
                    have tkn : decide (kc < q.length) = true := decide_eq_true hkq
                    have hft : Hid (((List.range p.length).take (j + 1)).map (firstsOf q.length M) = ((List.range p.length).take j).map (firstsOf q.length M) ++ [((j : Int), (kc : Int))]) := by rw [Hid, hft0, firstsOf, hgd, if_pos (by omega)]
                    clear hft0 hx m3 hF hgd
                    have hlen : (((List.range p.length).take j).map (firstsOf q.length M)).length ≤ 1000000000 := by rw [List.length_map, List.length_take, List.length_range]; omega
                    have hOo : ∀ x, Old (MB + 1) x → x < wr.heap.size := fun x hx => by unfold Old at hx; have := hmap.lt; omega
                    go_wp2_with (at_builtin; refine wpList_push (by rfl) _ _ 27 (by rfl) elemOk_pair (O := Old (MB + 1)) (l := ((List.range p.length).take j).map (firstsOf q.length M)) (y := ((j : Int), (kc : Int))) (by rfl) (by rfl) (by simp) hown rfl hOo hlen ?_; intro v' w7 hown7 hc7 _)
                    have hmap7 := hmap.keep hc7 (fun hh => own_out hown MB hh (Nat.lt_succ_self _))
                    have hw7 : Chg Never w5 w7 := hc.trans' hc7 (fun x hx hh => by have := own_out hown x hh; unfold Old at this; omega)
                    clear hc7 hown hmap hOo
                    go_wp2_with fail
                    go_roundw
                    case rel => exact ⟨j + 1, F, by omega, by go_num, hw7, hmap7.mono (by omega), by rw [hft.out]; exact hown7, hF2⟩
                    case measure => simp [intOf] <;> omega
                  · have tk : decide ((kc : Int) < (q.length : Int)) = false := decide_eq_false (by omega)
                    have tkn : decide (kc < q.length) = false := decide_eq_false hkq
                    have hft : Hid (((List.range p.length).take (j + 1)).map (firstsOf q.length M) = ((List.range p.length).take j).map (firstsOf q.length M) ++ [((j : Int), (-1 : Int))]) := by rw [Hid, hft0, firstsOf, hgd, if_neg (by omega)]
                    clear hft0 hx m3 hF hgd
                    have hlen : (((List.range p.length).take j).map (firstsOf q.length M)).length ≤ 1000000000 := by rw [List.length_map, List.length_take, List.length_range]; omega
                    have hOo : ∀ x, Old (MB + 1) x → x < wr.heap.size := fun x hx => by unfold Old at hx; have := hmap.lt; omega
                    go_wp2_with (at_builtin; refine wpList_push (by rfl) _ _ 27 (by rfl) elemOk_pair (O := Old (MB + 1)) (l := ((List.range p.length).take j).map (firstsOf q.length M)) (y := ((j : Int), (-1 : Int))) (by rfl) (by rfl) (by simp) hown rfl hOo hlen ?_; intro v' w7 hown7 hc7 _)
                    have hmap7 := hmap.keep hc7 (fun hh => own_out hown MB hh (Nat.lt_succ_self _))
                    have hw7 : Chg Never w5 w7 := hc.trans' hc7 (fun x hx hh => by have := own_out hown x hh; unfold Old at this; omega)
                    clear hc7 hown hmap hOo
                    go_wp2_with fail
                    go_roundw
                    case rel => exact ⟨j + 1, F, by omega, by go_num, hw7, hmap7.mono (by omega), by rw [hft.out]; exact hown7, hF2⟩
                    case measure => simp [intOf] <;> omega
                · have tj : decide ((j : Int) < (p.length : Int)) = false := decide_eq_false (by omega)
                  have tjn : decide (j < p.length) = false := decide_eq_false hjp
                  have hft := Lib.hid (firsts_stop (a := p.length) (b := q.length) (m := M) (j := j) (by omega))
                  by_cases hkq : kc < q.length
                  · have tk : decide ((kc : Int) < (q.length : Int)) = true := decide_eq_true (by omega)
                    have tkn : decide (kc < q.length) = true := decide_eq_true hkq
                    have hF2 := Lib.hid (left_step hx (show p.length ≤ j by omega) (by omega) (by omega) F hF.out)
                    obtain ⟨w7, hrun, hmap7, hc7⟩ := hmap.put (j := (kc : Int)) (c := 1) (by unfold maxLen; omega) hyi (by unfold I64; omega)
                    have hown7 := hown.keep (O'' := Old (MB + 1)) hc7 (fun x _ hx => by have h : x = MB := hx; unfold Old; omega) (fun _ _ h => h)
                    have hw7 : Chg Never w5 w7 := hc.trans' hc7 (fun x hx hh => by have h : x = MB := hh; omega)
                    clear hx m3 hF hgd hc7 hown hmap
                    go_wp2_with fail
                    go_roundw
                    case rel => exact ⟨j + 1, _, by omega, by go_num, hw7, hmap7, by rw [hft.out]; exact hown7, hF2⟩
                    case measure => simp [intOf] <;> omega
                  · have tk : decide ((kc : Int) < (q.length : Int)) = false := decide_eq_false (by omega)
                    have tkn : decide (kc < q.length) = false := decide_eq_false hkq
                    have hF2 : Hid (∀ z, F z = isLeft q.length p.length M (j + 1) z) := fun z => by rw [left_same hx (.inr (by omega)), hF.out]
                    clear hx m3 hF hgd
                    go_wp2_with fail
                    go_roundw
                    case rel => exact ⟨j + 1, F, by omega, by go_num, hc, hmap.mono (by omega), by rw [hft.out]; exact hown, hF2⟩
                    case measure => simp [intOf] <;> omega
              · obtain rfl : j = i := by omega
                have hft : ((List.range p.length).take j).map (firstsOf q.length M) = (List.range p.length).map (firstsOf q.length M) := by rw [List.take_of_length_le (by rw [List.length_range]; omega)]
                rw [hft] at hown
                have hF1 : Hid (∀ z : Nat, z < q.length → F z = if ((z : Int) ∈ M.drop p.length) then 1 else 0) := fun z hz => by
                  rw [hF.out]
                  unfold isLeft
                  rw [List.take_of_length_le (by omega)]
                  by_cases hm : (z : Int) ∈ M.drop p.length
                  · rw [if_pos ⟨hm, by omega, by omega⟩, if_pos hm]
                  · rw [if_neg (fun h => hm h.1), if_neg hm]
                clear hF hft m3
                rename World => wr
                go_wp2_with fail
                go_loopw [14, 122] (fun ov kv wz => ∃ k : Nat, k ≤ q.length ∧ kv = .int .i64 k ∧ Chg Never w5 wz ∧ IntMap wz MB j F ∧ Own 32 wz (Old (MB + 1)) ov ((List.range p.length).map (firstsOf q.length M) ++ (((List.range q.length).take k).filter fun (c : Nat) => decide ((c : Int) ∈ M.drop p.length)).map fun (c : Nat) => ((-1 : Int), (c : Int)))) (fun _ kv _ => q.length - (intOf kv).toNat)
                case atStart => exact ⟨0, Nat.zero_le _, rfl, hc, hmap, by simpa using hown⟩
                case round =>
                  clear hown hmap hc
                  obtain ⟨k, hk, rfl, hc, hmap, hown⟩ := hrel
                  rename World => wz
                  obtain ⟨va, vn, vc, rfl⟩ := own_isSlice hown
                  by_cases hkq : k < q.length
                  · have hlook := hmap.look (j := (k : Int)) (by unfold I64; omega)
                    have hth := thens_take (b := q.length) (k := k) (fun (c : Nat) => decide ((c : Int) ∈ M.drop p.length)) hkq
                    have hFk := hF1.out k hkq
                    by_cases hmem : (k : Int) ∈ M.drop p.length
                    · rw [if_pos hmem] at hFk
                      rw [hFk] at hlook
                      rw [if_pos (by simpa using hmem)] at hth
                      have hlen : ((List.range p.length).map (firstsOf q.length M) ++ (((List.range q.length).take k).filter fun (c : Nat) => decide ((c : Int) ∈ M.drop p.length)).map fun (c : Nat) => ((-1 : Int), (c : Int))).length ≤ 1000000000 := by
                        rw [List.length_append, List.length_map, List.length_map, List.length_range]
                        have := List.length_filter_le (fun (c : Nat) => decide ((c : Int) ∈ M.drop p.length)) ((List.range q.length).take k)
                        rw [List.length_take] at this
                        omega
                      obtain ⟨LL, hLL⟩ : ∃ LL, ((List.range p.length).map (firstsOf q.length M) ++ (((List.range q.length).take k).filter fun (c : Nat) => decide ((c : Int) ∈ M.drop p.length)).map fun (c : Nat) => ((-1 : Int), (c : Int))) = LL := ⟨_, rfl⟩
                      rw [hLL] at hlen hown
                      have HTL : Hid ((List.range p.length).map (firstsOf q.length M) ++ (((List.range q.length).take (k + 1)).filter fun (c : Nat) => decide ((c : Int) ∈ M.drop p.length)).map (fun (c : Nat) => ((-1 : Int), (c : Int))) = LL ++ [((-1 : Int), (k : Int))]) := by rw [Hid, ← hLL, hth, List.append_assoc]
                      have hOo : ∀ x, Old (MB + 1) x → x < wz.heap.size := fun x hx => by unfold Old at hx; have := hmap.lt; omega
                      clear hLL hth hmem hFk
                      go_wp2_with (at_builtin; refine wpList_push (by rfl) _ _ 27 (by rfl) elemOk_pair (O := Old (MB + 1)) (l := LL) (y := ((-1 : Int), (k : Int))) (by rfl) (by rfl) (by simp) hown rfl hOo hlen ?_; intro v' w7 hown7 hc7 _)
                      have hmap7 := hmap.keep hc7 (fun hh => own_out hown MB hh (Nat.lt_succ_self _))
                      have hw7 : Chg Never w5 w7 := hc.trans' hc7 (fun x hx hh => by have := own_out hown x hh; unfold Old at this; omega)
                      clear hc7 hown hmap hOo hlook
                      go_wp2_with fail
                      go_roundw
                      case rel => exact ⟨k + 1, by omega, by go_num, hw7, hmap7, by rw [HTL.out]; exact hown7⟩
                      case measure => simp [intOf] <;> omega
                    · rw [if_neg hmem] at hFk
                      rw [hFk] at hlook
                      rw [if_neg (by simpa using hmem), List.append_nil] at hth
                      have HTH := Lib.hid hth
                      clear hth hmem hFk
                      go_wp2_with fail
                      go_roundw
                      case rel => exact ⟨k + 1, by omega, by go_num, hc, hmap, by rw [HTH.out]; exact hown⟩
                      case measure => simp [intOf] <;> omega
                  · rw [List.take_of_length_le (by rw [List.length_range]; omega)] at hown
                    have hr : Rdv wz Never (.slice va vn vc) (rangeOut p.length q.length M) := hown.rdv.sub (fun _ _ h => h.elim)
                    have hcf := hw5.trans hc
                    clear hown hmap
                    go_wp2_with fail
                    go_ret2
                    exact ⟨_, by rw [HFZ.out, errV_zero]; rfl, hcf, by rw [HRL.out]; exact hr⟩
      · have HF2 : Hid (rangeFault p q = textsF q) := by rw [Hid, HF.out, firstOf_app, ← HTP.out, HZ1.out, if_pos rfl, ← HTQ.out]
        have HR : Hid (rangeL p q = []) := if_neg (by rw [HF2.out]; exact hz2)
        have HZ2 := Lib.hid hz2
        rw [errV_pos hz2]
        clear hz2 hr1 hr2
        go_wp2_with fail
        go_ret2
        exact ⟨_, by rw [HF2.out, errV_pos HZ2.out]; rfl, hw2, by rw [HR.out]; exact rdv_nil _ _⟩
    · have HF2 : Hid (rangeFault p q = textsF p) := by rw [Hid, HF.out, firstOf_app, ← HTP.out, if_neg hz1]
      have HR : Hid (rangeL p q = []) := if_neg (by rw [HF2.out]; exact hz1)
      have HZ1 := Lib.hid hz1
      rw [errV_pos hz1]
      clear hz1 hr1
      go_wp2_with fail
      go_ret2
      exact ⟨_, by rw [HF2.out, errV_pos HZ1.out]; rfl, hc1, by rw [HR.out]; exact rdv_nil _ _⟩
end Go.Proofs.YtgabchhplmncnaaDoor
namespace Go.Proofs.YtgabchhplmncnaaDoor

theorem allSign_those (l : List Mark) (s : Int) : allSign l s = decide ((those l s).length = 0) := by
  unfold allSign those
  rw [List.length_map]
  induction l with
  | nil => rfl
  | cons m r ih =>
    rw [List.all_cons, ih, List.filter_cons]
    by_cases h : m.sign = s
    · simp [h]
    · simp [h]
theorem shape_edit0 {c : Change} (h : c.what = 1) (g : c.hunks = []) : shapeB c = false := by
  unfold shapeB; rw [if_neg (by rw [h]; decide), if_neg (by rw [h]; decide), g]; rfl
theorem shape_edit {c : Change} (h : c.what = 1) (g : c.hunks ≠ []) : shapeB c = true := by
  unfold shapeB
  rw [if_neg (by rw [h]; decide), if_neg (by rw [h]; decide)]
  cases hh : c.hunks with
  | nil => exact absurd hh g
  | cons x r => rfl
theorem shape_of {c : Change} (h : c.what = 2 ∨ c.what = 3) : shapeB c = wholeB c.hunks (if c.what = 2 then 43 else 45) := by
  unfold shapeB
  by_cases e : c.what = 2
  · rw [if_pos e, if_pos e]
  · rw [if_neg e, if_neg e, if_pos (h.resolve_left e)]
theorem shape_many {c : Change} (h : c.what = 2 ∨ c.what = 3) (g : 2 ≤ c.hunks.length) : shapeB c = false := by rw [shape_of h, wholeB_many g]
theorem shape_none {c : Change} (h : c.what = 2 ∨ c.what = 3) (g : c.hunks = []) : shapeB c = true := by rw [shape_of h, g]; rfl
theorem shape_one {c : Change} {x : Hunk} (h : c.what = 2 ∨ c.what = 3) (g : c.hunks = [x]) (f : (hunksFault c.hunks).2 = 0) : shapeB c = (decide (x.old = 0) && decide ((those x.marks (if c.what = 2 then 43 else 45)).length = 0)) := by
  rw [shape_of h, g, wholeB_one, allSign_those]
  have e : x.new = x.old := by
    rw [g] at f
    have := ((hunksFault_zero f).2).1
    have := (oneFault_zero this).2.2.2.2.2.2.2
    omega
  by_cases o : x.old = 0
  · rw [decide_eq_true o, decide_eq_true (by omega)]; rfl
  · rw [decide_eq_false o]; rfl
/-- a place where a patch stands no longer -/
theorem pg_bad {t : List Change} {k : Nat} {f : Change} {prev : Option ByteArray} (hd : t.drop k = f :: t.drop (k + 1)) (h1 : changeFault f = 0 ∨ changeFault f = 2) (h2 : shapeB f = false ∨ prev.any (fun p => leqB f.path p) = true) (hs : shapeB f = false → changeFault f = 2) : patchGo k prev (t.drop k) = (k, 2) := by
  rw [hd, patchGo]
  by_cases e : changeFault f ≠ 0
  · rw [if_pos e, h1.resolve_left e]
  · rw [if_neg e]
    rcases h2 with h2 | h2
    · exact absurd (by rw [hs h2]; decide) e
    · rw [if_pos h2]
end Go.Proofs.YtgabchhplmncnaaDoor
