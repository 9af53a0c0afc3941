/-
  THE WALK of match.least.
-/
import Derived.Test.YtcgjegjnodopoaaDoorMatchA
import Derived.Test.YtcgjegjnodopoaaDoorMapI
import Derived.Test.YtcgjegjnodopoaaDoorBits64
namespace Go.Proofs.YtcgjegjnodopoaaDoor
open Go.RowKit

def FOk (rows : List (List Int)) (F : Int → Int) (s : Nat) : Prop := ∀ t : Nat, t < s → F t = bestN rows t
theorem sq_bd {l : List (List Int)} (h : sqFault l = 0) : l.length ≤ 8 ∧ SqBd l.length l := by
  unfold sqFault at h
  by_cases e : 8 < l.length
  · rw [if_pos e] at h; cases h
  · rw [if_neg e, firstOf_zero] at h
    refine ⟨by omega, fun row hr => ?_⟩
    have := h row hr
    unfold rowFault at this
    by_cases e1 : row.length ≠ l.length
    · rw [if_pos e1] at this; cases this
    · rw [if_neg e1, firstOf_zero] at this
      refine ⟨by omega, fun c hc => ?_⟩
      have := this c hc
      unfold costBad at this
      by_cases e2 : c < 0 ∨ 100000 < c
      · rw [if_pos e2] at this; cases this
      · omega

theorem pow_wrap {n : Nat} (h : n ≤ 8) : wrap64 ((2 : Int) ^ n) = ((2 ^ n : Nat) : Int) := by
  have : 2 ^ n ≤ 256 := Nat.pow_le_pow_right (n := 2) (by decide) h
  have e : ((2 : Int) ^ n) = ((2 ^ n : Nat) : Int) := by rw [Int.natCast_pow]; rfl
  rw [e]
  generalize 2 ^ n = m at this
  unfold wrap64
  omega

theorem del_step {l : List (List Int)} {F : Int → Int} {s k rr : Nat} (hq : SqBd l.length l) (hn : l.length ≤ 8) (hs : s < 2 ^ l.length) (hk : k < 8) (hb : s.testBit k = true) (hr : rr + cntN s = l.length) (hF : ∀ d : Nat, d < s → F d = bestN l d) :
    ∃ d : Nat, d < s ∧ bits .andNot .i64 (s : Int) (wrap64 (2 ^ k)) = (d : Int) ∧ F d = bestS (l.drop (rr + 1)) (delC (bitsOf s) k) ∧ 0 ≤ F d ∧ F d ≤ 800000 ∧ s - 2 ^ k = d := by
  have h256 := pow_small hs hn
  have hbo : bitsOf s k = true := hb
  obtain ⟨_, h2⟩ := cntN_del h256 hk hbo
  have hp := Nat.two_pow_pos k
  have hd : s - 2 ^ k < s := by omega
  have hbd := bestN_bd hq hn (s := s - 2 ^ k) (by omega)
  have e := hF _ hd
  refine ⟨s - 2 ^ k, hd, ?_, ?_, ?_, ?_, rfl⟩
  · rw [pow_wrap (n := k) (by omega)]
    exact bits_del64 s h256 k hk hb
  · rw [e, bestN_del h256 hk hbo hr]
  · rw [e]; exact hbd.1
  · rw [e]; exact hbd.2

set_option maxHeartbeats 1000000 in
set_option maxRecDepth 100000 in
theorem least_any (l : List (List Int)) (v : Value) (w : World) (h : Rdv w Never v l) (hn : l.length ≤ 8) (hq : SqBd l.length l) :
    Calls Tryd.prog 33 #[v] w fun e w' => ∃ b F, e = .returned (.map (some b)) ∧ Chg Never w w' ∧ w.heap.size ≤ b ∧ IntMap w' b 256 F ∧ FOk l F (2 ^ l.length) := by
  obtain ⟨a, cap, rfl, h1, h2, h3⟩ := rdv_slice h
  unfold maxLen at h2
  have hmm := @run_makeMap Tryd.prog
  have hp1 : 1 ≤ 2 ^ l.length := Nat.two_pow_pos _
  have hp2 : 2 ^ l.length ≤ 256 := Nat.pow_le_pow_right (n := 2) (by decide) hn
  obtain ⟨w1, hrun, hm1, hc1⟩ := (intMap_made w).put (j := 0) (c := 0) (by decide) (by unfold I64; omega) (by unfold I64; omega)
  go_enter Tryd.func33, Tryd.ntmps33
  have hA : Chg Never w w1 := ((Chg.refl Never w).alloc _).trans' hc1 (fun k hk hh => by subst hh; exact absurd hk (Nat.lt_irrefl _))
  have hF1 : Hid (FOk l (fun i => if i = 0 then 0 else (fun _ => 0) i) 1) := fun t ht => by
    obtain rfl : t = 0 := by omega
    rw [bestN_zero]; rfl
  generalize (fun i : Int => if i = 0 then (0 : Int) else (fun _ => 0) i) = F1 at hm1 hF1
  have hm1 := hm1.mono (n' := 1) (by decide)
  go_wp2_with fail
  clear hc1 hmm hrun
  go_loopw [5] (fun i wr => ∃ (s : Nat) (F : Int → Int), 1 ≤ s ∧ s ≤ 2 ^ l.length ∧ i = .int .i64 s ∧ Chg Never w wr ∧ IntMap wr w.heap.size s F ∧ Hid (FOk l F s)) (fun i _ => 256 - (intOf i).toNat)
  case atStart => exact ⟨1, F1, by omega, by omega, rfl, hA, hm1, hF1⟩
  case round =>
    obtain ⟨s, F, hs1, hs2, rfl, hw, hm, hF⟩ := hrel
    have hpw := pow_wrap hn
    by_cases hlt : s < 2 ^ l.length
    · have hs256 : s < 256 := by omega
      have t1 : decide ((s : Int) < wrap64 (2 ^ l.length)) = true := by rw [hpw]; exact decide_eq_true (by omega)
      clear hpw
      go_wp2_with fail
      go_loop [6, 7] (fun r t => ∃ (rr tt : Nat), r = .int .i64 rr ∧ t = .int .i64 tt ∧ tt ≤ s ∧ rr ≤ l.length ∧ Hid (rr + cntN s = l.length + cntN tt)) (fun _ t => (intOf t).toNat)
      case atStart => exact ⟨l.length, s, rfl, rfl, Nat.le_refl _, Nat.le_refl _, rfl⟩
      case round =>
        obtain ⟨rr, tt, rfl, rfl, hts, hrn, hrt⟩ := hrel
        by_cases ht0 : 0 < tt
        · have t2 : decide (0 < (tt : Int)) = true := decide_eq_true (by omega)
          have hlow := bits_low64 tt (by omega) ht0
          have hcl := cntN_low (s := tt) (by omega) ht0
          have hr1 : 1 ≤ rr := by have := hrt.out; have := cntN_le hlt hn; omega
          have hw1 : wrap64 ((rr : Int) - 1) = ((rr - 1 : Nat) : Int) := by unfold wrap64; omega
          go_wp2_with fail
          go_round
          case rel => exact ⟨rr - 1, tt &&& (tt - 1), by congr 1; omega, by first | rfl | assumption, by omega, by omega, by have := hrt.out; unfold Hid; omega⟩
          case measure => simp [intOf]; omega
        · obtain rfl : tt = 0 := by omega
          have hcs := cntN_le hlt hn
          have hcp := cntN_pos hs256 hs1
          have hrs : rr + cntN s = l.length := by have := hrt.out; rw [cntN_zero] at this; exact this
          have hrl : rr < l.length := by omega
          clear hrt
          obtain ⟨x, hx⟩ : ∃ x, l[rr]? = some x := ⟨l[rr], by simp [hrl]⟩
          have hxl : x.length = l.length := (hq x (List.mem_of_getElem? hx)).1
          obtain ⟨b, off, xv, rfl, _, _, hcx, hxr⟩ := elems_row h3 hx
          have hcx := hw.cellNever hcx
          have hxr := hxr.never hw
          clear h3 h
          obtain ⟨a', cap', rfl, g1, g2, g3⟩ := rdv_slice hxr
          unfold maxLen at g2
          clear hxr
          have HX := Lib.hid hx
          have HS := Lib.hid hrs
          have HL := Lib.hid hxl
          clear hx hrs hxl hcs hcp
          go_wp2_with fail
          go_loopw [8, 32] (fun be i wx => ∃ k : Nat, k ≤ l.length ∧ i = .int .i64 k ∧ be = .int .i64 (minGo (fun k => x.getD k 0 + bestS (l.drop (rr + 1)) (delC (bitsOf s) k)) (bitsOf s) k) ∧ Chg Never wr wx) (fun _ i _ => l.length - (intOf i).toNat)
          case atStart => exact ⟨0, Nat.zero_le _, rfl, rfl, Chg.refl _ _⟩
          case round =>
            obtain ⟨k, hk, rfl, rfl, hwx⟩ := hrel
            rename World => wx
            by_cases hkl : k < l.length
            · have hbt := bits_at64 s hs256 k (by omega)
              cases hb : s.testBit k with
              | false =>
                have HM : Hid (minGo (fun k => x.getD k 0 + bestS (l.drop (rr + 1)) (delC (bitsOf s) k)) (bitsOf s) (k + 1) = minGo (fun k => x.getD k 0 + bestS (l.drop (rr + 1)) (delC (bitsOf s) k)) (bitsOf s) k) := by
                  rw [Hid, minGo, if_neg]
                  rintro ⟨q, _⟩
                  unfold bitsOf at q
                  rw [hb] at q; cases q
                rw [hb] at hbt
                clear hb
                go_wp2_with fail
                go_roundw
                case rel => exact ⟨k + 1, by omega, by go_num, by rw [HM.out], hwx⟩
                case measure => simp [intOf]; omega
              | true =>
                rw [hb] at hbt
                have hbo : bitsOf s k = true := hb
                obtain ⟨d, hds, hdl, hFd, hF0, hF8, _⟩ := del_step hq hn hlt (by omega) hb HS.out hF.out
                have hlk : ∀ q, (Instr.lookup 57 (.map (some w.heap.size)) (.int .i64 (d : Int)) false).run Tryd.prog (wx.drewN q) = .ok (.int .i64 (F d)) (wx.drewN q) := fun q => (hm.keep (hwx.drewN q) (fun q => q)).look (j := (d : Int)) (by unfold I64; omega)
                obtain ⟨y, hy⟩ : ∃ y, x[k]? = some y := ⟨x[k]'(by rw [HL.out]; exact hkl), by simp [HL.out ▸ hkl]⟩
                obtain ⟨b', off', rfl, _, hcy, hyi⟩ := elems_ints g3 hy
                have hcx := hwx.cellNever hcx
                have hcy := hwx.cellNever hcy
                have hyb := (hq x (List.mem_of_getElem? HX.out)).2 y (List.mem_of_getElem? hy)
                have hyd : x.getD k 0 = y := by rw [List.getD_eq_getElem?_getD, hy]; rfl
                have hkx : k < x.length := by rw [HL.out]; exact hkl
                have HY := Lib.hid hyd
                have HB := Lib.hid hbo
                have HF := Lib.hid hFd
                clear g3 hy hyd hbo hb hFd
                obtain ⟨m, hmm⟩ : ∃ m, minGo (fun k => x.getD k 0 + bestS (l.drop (rr + 1)) (delC (bitsOf s) k)) (bitsOf s) k = m := ⟨_, rfl⟩
                have HM := Lib.hid hmm
                rw [hmm]
                clear hmm
                have hsum : wrap64 (y + F d) = y + F d := by unfold wrap64; omega
                by_cases hm0 : m < 0
                · have HN : Hid (minGo (fun k => x.getD k 0 + bestS (l.drop (rr + 1)) (delC (bitsOf s) k)) (bitsOf s) (k + 1) = y + F d) := by
                    rw [Hid, minGo, if_pos ⟨HB.out, .inl (by rw [HM.out]; exact hm0)⟩, HY.out, HF.out]
                  go_wp2_with fail
                  go_quiet (fail)
                  go_wp2_with fail
                  go_roundw
                  case rel => exact ⟨k + 1, by omega, by go_num, by rw [HN.out], hwx.drewN _⟩
                  case measure => simp [intOf]; omega
                · by_cases hlm : y + F d < m
                  · have HN : Hid (minGo (fun k => x.getD k 0 + bestS (l.drop (rr + 1)) (delC (bitsOf s) k)) (bitsOf s) (k + 1) = y + F d) := by
                      rw [Hid, minGo, if_pos ⟨HB.out, .inr (by rw [HM.out, HY.out, ← HF.out]; exact hlm)⟩, HY.out, HF.out]
                    go_wp2_with fail
                    go_quiet (fail)
                    go_wp2_with fail
                    go_roundw
                    case rel => exact ⟨k + 1, by omega, by go_num, by rw [HN.out], hwx.drewN _⟩
                    case measure => simp [intOf]; omega
                  · have HN : Hid (minGo (fun k => x.getD k 0 + bestS (l.drop (rr + 1)) (delC (bitsOf s) k)) (bitsOf s) (k + 1) = m) := by
                      rw [Hid, minGo, if_neg, HM.out]
                      rw [HM.out, HY.out, ← HF.out]
                      rintro ⟨_, q | q⟩
                      · exact hm0 q
                      · exact hlm q
                    go_wp2_with fail
                    go_quiet (fail)
                    go_wp2_with fail
                    go_roundw
                    case rel => exact ⟨k + 1, by omega, by go_num, by rw [HN.out], hwx.drewN _⟩
                    case measure => simp [intOf]; omega
            · obtain rfl : k = x.length := by have := HL.out; omega
              have HV : Hid (bestN l s = minGo (fun k => x.getD k 0 + bestS (l.drop (rr + 1)) (delC (bitsOf s) k)) (bitsOf s) x.length) := bestN_step HS.out HX.out
              have hbd := bestN_bd hq hn hlt
              rw [← HV.out]
              have hmx := hm.keep hwx (fun q => q)
              obtain ⟨w2, hrun, hm2, hc2⟩ := hmx.put (j := (s : Int)) (c := bestN l s) (by unfold maxLen; omega) (by unfold I64; omega) (by unfold I64; omega)
              have hw2 : Chg Never w w2 := (hw.trans hwx).trans' hc2 (fun k hk hh => by subst hh; exact absurd hk (Nat.lt_irrefl _))
              have hF2 : Hid (FOk l (fun i => if i = (s : Int) then bestN l s else F i) (s + 1)) := fun t ht => by
                by_cases e : t = s
                · subst e; exact if_pos rfl
                · show (if (t : Int) = s then _ else _) = _
                  rw [if_neg (by omega)]
                  exact hF.out t (by omega)
              clear HV hc2 hmx
              go_wp2_with fail
              go_roundw
              case rel => exact ⟨s + 1, _, by omega, by omega, by go_num, hw2, hm2, hF2⟩
              case measure => simp [intOf]; omega
    · have t1 : decide ((s : Int) < wrap64 (2 ^ l.length)) = false := by rw [hpw]; exact decide_eq_false (by omega)
      clear hpw
      go_wp2_with fail
      go_ret
      refine ⟨_, F, rfl, hw, Nat.le_refl _, hm.mono (by omega), ?_⟩
      rw [show 2 ^ l.length = s by omega]
      exact hF.out
end Go.Proofs.YtcgjegjnodopoaaDoor
