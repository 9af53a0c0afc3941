/-
  THE WALK of the document's BytesOf.
-/
import Derived.Test.YtcgjegjnodopoaaDoorDecode
import Derived.Test.YtcgjegjnodopoaaDoorRefLetters
namespace Go.Proofs.YtcgjegjnodopoaaDoor
open Go.RowKit

theorem line_len : ∀ (k : Nat) (s : List UInt8), s.length ≤ k → (lineGo s).length ≤ s.length + s.length / 76 + 1
  | 0, s, h => by
    have : s = [] := List.eq_nil_of_length_eq_zero (by omega)
    subst this
    rw [lineGo]; simp
  | k + 1, s, h => by
    rw [lineGo]
    by_cases h76 : 76 < s.length
    · have ih := line_len k (s.drop 76) (by rw [List.length_drop]; omega)
      rw [if_pos h76, List.length_append, List.length_append, List.length_take]
      rw [List.length_drop] at ih
      simp only [List.length_singleton]
      omega
    · rw [if_neg h76]
      split
      · simp
      · simp
theorem enc_short_len {l : List UInt8} (h : l.length ≤ 40000) : (encL l).length ≤ 60000 := by
  rw [← line_flat l.length l (Nat.le_refl _)]
  have h1 := flat_len l.length l (Nat.le_refl _)
  have h2 := line_len (flatE l).length (flatE l) (Nat.le_refl _)
  omega
theorem idx_some {c : UInt8} {q : Nat} (h : idxOf c = some q) : letterAt q = c := by
  unfold idxOf at h
  obtain ⟨h1, h2, _⟩ := List.findIdx?_eq_some_iff_getElem.1 h
  unfold letterAt
  rw [List.getD_eq_getElem?_getD, List.getElem?_eq_getElem h1]
  exact eq_of_beq h2
theorem idx_none {c : UInt8} (h : ∀ j, j < 64 → letterAt j ≠ c) : idxOf c = none := by
  cases e : idxOf c with
  | none => rfl
  | some q => exact absurd (idx_some e) (h q (idx_lt e))

theorem read_some {s L : List UInt8} (h : refDec s 0 0 [] = some L) : decL s = L := by
  have := read_same s
  rw [h] at this
  exact this.symm
theorem read_none {s : ByteArray} (h : refDec s.data.toList 0 0 [] = none) : decFault s = 5 := by
  have := read_same s.data.toList
  rw [h] at this
  unfold decFault
  rw [if_neg (fun q => this q.2)]

set_option maxHeartbeats 4000000 in
set_option maxRecDepth 100000 in
theorem refBytes_any (s : ByteArray) (w : World) (hs : s.size ≤ 10000000) :
    Calls Tryd.prog 10 #[.string s] w fun e w' => ∃ r, e = .returned (.tuple #[r, .int .i64 (decFault s)]) ∧ Chg Never w w' ∧ Rdv w' (Old w.heap.size) r (decodeR s) := by
  by_cases h6 : 60000 < s.size
  · have HF : Hid (decFault s = 5) := by
      unfold Hid decFault
      rw [if_neg]
      rintro ⟨q1, q2⟩
      have := enc_short_len q1
      rw [q2, ← Lib.size_eq] at this
      omega
    have HO : Hid (decodeR s = []) := by unfold Hid decodeR; rw [HF.out, if_neg (by decide)]
    go_enter Tryd.func10, Tryd.ntmps10
    go_wp2_with fail
    go_ret2
    exact ⟨_, by rw [HF.out]; rfl, Chg.refl _ _, by rw [HO.out]; exact rdv_nil _ _⟩
  · go_enter Tryd.func10, Tryd.ntmps10
    go_wp2_with fail
    go_loopw [4, 5, 6, 7] (fun o nv bv i wr => ∃ (N b k : Nat) (L : List UInt8), nv = .int .i64 N ∧ bv = .int .i64 b ∧ i = .int .i64 k ∧ k ≤ s.size ∧ (b = 0 ∨ b = 2 ∨ b = 4 ∨ b = 6) ∧ N < 16777216 ∧ L.length ≤ k ∧ Chg Never w wr ∧ Own 5 wr (Old w.heap.size) o L ∧ Hid (refDec (s.data.toList.drop k) N b L = refDec s.data.toList 0 0 [])) (fun _ _ _ i _ => s.size - (intOf i).toNat)
    case atStart => exact ⟨0, 0, 0, [], rfl, rfl, rfl, Nat.zero_le _, .inl rfl, by decide, Nat.le_refl _, Chg.refl _ _, own_nil _ _ _, rfl⟩
    case round =>
      obtain ⟨N, b, k, L, rfl, rfl, rfl, hk, hb, hN, hL, hw, hown, hR⟩ := hrel
      rename World => wr
      by_cases hlt : k < s.size
      · have hfk : Hid (s.data.toList.drop k = s[k] :: s.data.toList.drop (k + 1)) := by
          rw [Hid]
          exact drop_eq (by rw [Array.getElem?_toList, Array.getElem?_eq_getElem hlt]; rfl)
        obtain ⟨c, hc⟩ : ∃ c, s[k] = c := ⟨_, rfl⟩
        rw [hc] at hfk
        by_cases h61 : c = 61
        · have hLL : Hid (decL s.data.toList = L) := by
            refine read_some ?_
            rw [← hR.out, hfk.out, refDec, if_pos h61]
          have t61 : ((c.toNat : Int) != 61) = false := by rw [h61]; rfl
          clear hR hN hb hfk h61
          have hv := hown.rdv
          obtain ⟨ao, capo, rfl, o1, o2, _⟩ := rdv_slice hv
          unfold maxLen at o2
          by_cases hlong : 40000 < L.length
          · have HF : Hid (decFault s = 5) := by unfold Hid decFault; rw [hLL.out, if_neg (by rintro ⟨h, _⟩; omega)]
            have HO : Hid (decodeR s = []) := by unfold Hid decodeR; rw [HF.out, if_neg (by decide)]
            clear hown
            go_wp2_with fail
            go_ret2
            exact ⟨_, by rw [HF.out]; rfl, hw, by rw [HO.out]; exact rdv_nil _ _⟩
          · have t40 : decide ((40000 : Int) < (L.length : Int)) = false := decide_eq_false (by omega)
            go_wp2_with fail
            refine (refLetters_any L _ _ (hv.sub (fun _ _ h => h.elim)) (by omega)).mono ?_
            rintro e w2 ⟨rfl, rfl⟩
            by_cases hsame : encL L = s.data.toList
            · have HF : Hid (decFault s = 0) := by unfold Hid decFault; rw [hLL.out, if_pos ⟨by omega, hsame⟩]
              have HO : Hid (decodeR s = L) := by unfold Hid decodeR; rw [HF.out, if_pos rfl, hLL.out]
              have ts : ((toB (encL L)).toList == s.toList) = true := by rw [Lib.toList_data, Lib.toList_data, toB_data]; simp [hsame]
              clear hsame hown
              go_wp2_with fail
              go_ret2
              exact ⟨_, by rw [HF.out]; rfl, hw, by rw [HO.out]; exact hv⟩
            · have HF : Hid (decFault s = 5) := by unfold Hid decFault; rw [hLL.out, if_neg (by rintro ⟨_, h⟩; exact hsame h)]
              have HO : Hid (decodeR s = []) := by unfold Hid decodeR; rw [HF.out, if_neg (by decide)]
              have ts : ((toB (encL L)).toList == s.toList) = false := by rw [Lib.toList_data, Lib.toList_data, toB_data]; simp [hsame]
              clear hsame hown
              go_wp2_with fail
              go_ret2
              exact ⟨_, by rw [HF.out]; rfl, hw, by rw [HO.out]; exact rdv_nil _ _⟩
        · have t61 : ((c.toNat : Int) != 61) = true := by
            simp only [bne_iff_ne, ne_eq]
            intro e
            exact h61 (UInt8.toNat_inj.1 (by show c.toNat = 61; omega))
          by_cases h10 : c = 10
          · subst h10
            have hR2 : Hid (refDec (s.data.toList.drop (k + 1)) N b L = refDec s.data.toList 0 0 []) := by
              rw [Hid, ← hR.out, hfk.out, refDec, if_neg (by decide), if_pos rfl]
            clear hR hfk h61
            go_wp2_with fail
            go_roundw
            case rel => exact ⟨N, b, k + 1, L, rfl, rfl, by go_num, by omega, hb, hN, by omega, hw, hown, hR2.out⟩
            case measure => simp [intOf]; omega
          · have t10 : ((c.toNat : Int) == 10) = false := by
              simp only [beq_eq_false_iff_ne, ne_eq]
              intro e
              exact h10 (UInt8.toNat_inj.1 (by show c.toNat = 10; omega))
            have H61 := Lib.hid h61
            have H10 := Lib.hid h10
            have hsx : ∀ wx, (Instr.index 9 (.string s) (.int .i64 (k : Int))).run Tryd.prog wx = .ok (.int .u8 c.toNat) wx := fun wx => by
              rw [run_index_string _ _ _ _ _ Tryd.underlying9, dif_pos ⟨by omega, by omega⟩]
              simp only [Int.toNat_natCast, hc]
            clear h61 h10
            go_wp2_with fail
            go_loopw [8] (fun kv wx => ∃ q : Nat, q ≤ 64 ∧ kv = .int .i64 q ∧ Chg Never wr wx ∧ Hid (∀ j, j < q → letterAt j ≠ c)) (fun kv _ => 64 - (intOf kv).toNat)
            case atStart => exact ⟨0, Nat.zero_le _, rfl, Chg.refl _ _, fun j hj => absurd hj (Nat.not_lt_zero j)⟩
            case round =>
              obtain ⟨q, hq, rfl, hwx, hno⟩ := hrel
              rename World => wx
              have hw2' := hw.trans hwx
              have hown2 := hown.never hwx
              by_cases hq64 : q < 64
              · have t64 : decide ((q : Int) < 64) = true := decide_eq_true (by omega)
                by_cases hit : letterAt q = c
                · have hcmp : (((letterAt q).toNat : Int) != (c.toNat : Int)) = false := by rw [hit]; simp
                  have hla := fun wx => letter_at hq64 wx
                  unfold lettersB at hla
                  have hid : Hid (idxOf c = some q) := by rw [Hid, ← hit]; exact idx_letter q hq64
                  have hR2 : Hid ((if 8 ≤ b + 6 then refDec (s.data.toList.drop (k + 1)) ((N * 64 + q) % 16777216) (b + 6 - 8) (L ++ [UInt8.ofNat ((N * 64 + q) % 16777216 / 2 ^ (b + 6 - 8))]) else refDec (s.data.toList.drop (k + 1)) ((N * 64 + q) % 16777216) (b + 6) L) = refDec s.data.toList 0 0 []) := by
                    rw [Hid, ← hR.out, hfk.out, refDec, if_neg H61.out, if_neg H10.out, hid.out]
                  clear hno hit hw hwx hown hR hfk hid
                  go_wp2_with fail
                  go_quiet (fail)
                  have hw3 := hw2'.drewN nq
                  have hown3 := hown2.never ((Chg.refl Never wx).drewN nq)
                  clear hla hown2 hw2'
                  have hqi : ((q : Int) == 64) = false := by simp; omega
                  rcases hb with rfl | rfl | rfl | rfl
                  · have hR3 : Hid (refDec (s.data.toList.drop (k + 1)) ((N * 64 + q) % 16777216) 6 L = refDec s.data.toList 0 0 []) := by have := hR2.out; rw [if_neg (by decide)] at this; exact this
                    go_wp2_with fail
                    go_roundw
                    case rel => exact ⟨(N * 64 + q) % 16777216, 6, k + 1, L, by first | rfl | (congr 1), rfl, by go_num, by omega, .inr (.inr (.inr rfl)), by omega, by omega, hw3, hown3, hR3.out⟩
                    case measure => simp [intOf]; omega
                  · have hR3 : Hid (refDec (s.data.toList.drop (k + 1)) ((N * 64 + q) % 16777216) 0 (L ++ [UInt8.ofNat ((N * 64 + q) % 16777216 / 1)]) = refDec s.data.toList 0 0 []) := by have := hR2.out; rw [if_pos (by decide)] at this; exact this
                    have hyv : ((UInt8.ofNat ((N * 64 + q) % 16777216 / 1)).toNat : Int) = ((N : Int) * 64 + (q : Int)) % 256 := by
                      rw [UInt8.toNat_ofNat']
                      omega
                    go_wp2_with (at_builtin; refine wpList_push (by rfl) _ _ 22 (by rfl) elemOk_byte (O := Old w.heap.size) (l := L) (y := UInt8.ofNat ((N * 64 + q) % 16777216 / 1)) (by rfl) (by rfl) (by simp) hown3 (by show _ = _; rw [hyv]) (old_lt hw3) (by omega) ?_; intro v' w7 hown4 hc7 _)
                    have hw4 := own_step hw3 hown3 hc7
                    clear hc7 hown3 hw3 hyv
                    go_wp2_with fail
                    go_roundw
                    case rel => exact ⟨(N * 64 + q) % 16777216, 0, k + 1, L ++ [UInt8.ofNat ((N * 64 + q) % 16777216 / 1)], by first | rfl | (congr 1), rfl, by go_num, by omega, .inl rfl, by omega, by simp; omega, hw4, hown4, hR3.out⟩
                    case measure => simp [intOf]; omega
                  · have hR3 : Hid (refDec (s.data.toList.drop (k + 1)) ((N * 64 + q) % 16777216) 2 (L ++ [UInt8.ofNat ((N * 64 + q) % 16777216 / 4)]) = refDec s.data.toList 0 0 []) := by have := hR2.out; rw [if_pos (by decide)] at this; exact this
                    have hyv : ((UInt8.ofNat ((N * 64 + q) % 16777216 / 4)).toNat : Int) = ((N : Int) * 64 + (q : Int)) % 16777216 / 4 % 256 := by
                      rw [UInt8.toNat_ofNat']
                      omega
                    go_wp2_with (at_builtin; refine wpList_push (by rfl) _ _ 22 (by rfl) elemOk_byte (O := Old w.heap.size) (l := L) (y := UInt8.ofNat ((N * 64 + q) % 16777216 / 4)) (by rfl) (by rfl) (by simp) hown3 (by show _ = _; rw [hyv]) (old_lt hw3) (by omega) ?_; intro v' w7 hown4 hc7 _)
                    have hw4 := own_step hw3 hown3 hc7
                    clear hc7 hown3 hw3 hyv
                    go_wp2_with fail
                    go_roundw
                    case rel => exact ⟨(N * 64 + q) % 16777216, 2, k + 1, L ++ [UInt8.ofNat ((N * 64 + q) % 16777216 / 4)], by first | rfl | (congr 1), rfl, by go_num, by omega, .inr (.inl rfl), by omega, by simp; omega, hw4, hown4, hR3.out⟩
                    case measure => simp [intOf]; omega
                  · have hR3 : Hid (refDec (s.data.toList.drop (k + 1)) ((N * 64 + q) % 16777216) 4 (L ++ [UInt8.ofNat ((N * 64 + q) % 16777216 / 16)]) = refDec s.data.toList 0 0 []) := by have := hR2.out; rw [if_pos (by decide)] at this; exact this
                    have hyv : ((UInt8.ofNat ((N * 64 + q) % 16777216 / 16)).toNat : Int) = ((N : Int) * 64 + (q : Int)) % 16777216 / 16 % 256 := by
                      rw [UInt8.toNat_ofNat']
                      omega
                    go_wp2_with (at_builtin; refine wpList_push (by rfl) _ _ 22 (by rfl) elemOk_byte (O := Old w.heap.size) (l := L) (y := UInt8.ofNat ((N * 64 + q) % 16777216 / 16)) (by rfl) (by rfl) (by simp) hown3 (by show _ = _; rw [hyv]) (old_lt hw3) (by omega) ?_; intro v' w7 hown4 hc7 _)
                    have hw4 := own_step hw3 hown3 hc7
                    clear hc7 hown3 hw3 hyv
                    go_wp2_with fail
                    go_roundw
                    case rel => exact ⟨(N * 64 + q) % 16777216, 4, k + 1, L ++ [UInt8.ofNat ((N * 64 + q) % 16777216 / 16)], by first | rfl | (congr 1), rfl, by go_num, by omega, .inr (.inr (.inl rfl)), by omega, by simp; omega, hw4, hown4, hR3.out⟩
                    case measure => simp [intOf]; omega
                · have hla := fun wx => letter_at hq64 wx
                  unfold lettersB at hla
                  have hcmp : (((letterAt q).toNat : Int) != (c.toNat : Int)) = true := by
                    simp only [bne_iff_ne, ne_eq]
                    intro e
                    exact hit (UInt8.toNat_inj.1 (by show (letterAt q).toNat = _; have : ((letterAt q).toNat : Int) = c.toNat := e; omega))
                  have hno2 : Hid (∀ j, j < q + 1 → letterAt j ≠ c) := fun j hj => by
                    by_cases e : j = q
                    · subst e; exact hit
                    · exact hno.out j (by omega)
                  clear hno hit
                  go_wp2_with fail
                  go_quiet (fail)
                  go_wp2_with fail
                  go_roundw
                  case rel => exact ⟨q + 1, by omega, by go_num, hwx.drewN _, hno2⟩
                  case measure => simp [intOf]; omega
              · obtain rfl : q = 64 := by omega
                have hid : Hid (idxOf c = none) := idx_none hno.out
                have HF : Hid (decFault s = 5) := read_none (by rw [← hR.out, hfk.out, refDec, if_neg H61.out, if_neg H10.out, hid.out])
                have HO : Hid (decodeR s = []) := by unfold Hid decodeR; rw [HF.out, if_neg (by decide)]
                have t64 : decide (((64 : Nat) : Int) < 64) = false := by decide
                clear hno hR hfk hid hown hown2 hw hwx
                go_wp2_with fail
                go_quiet (fail)
                go_wp2_with fail
                go_ret2
                exact ⟨_, by rw [HF.out]; rfl, hw2'.drewN _, by rw [HO.out]; exact rdv_nil _ _⟩
      · have hLL : Hid (decL s.data.toList = L) := by
          refine read_some ?_
          rw [← hR.out, List.drop_of_length_le (by rw [← Lib.size_eq]; omega), refDec]
        clear hR hN hb
        have hv := hown.rdv
        obtain ⟨ao, capo, rfl, o1, o2, _⟩ := rdv_slice hv
        unfold maxLen at o2
        by_cases hlong : 40000 < L.length
        · have HF : Hid (decFault s = 5) := by unfold Hid decFault; rw [hLL.out, if_neg (by rintro ⟨h, _⟩; omega)]
          have HO : Hid (decodeR s = []) := by unfold Hid decodeR; rw [HF.out, if_neg (by decide)]
          clear hown
          go_wp2_with fail
          go_ret2
          exact ⟨_, by rw [HF.out]; rfl, hw, by rw [HO.out]; exact rdv_nil _ _⟩
        · have t40 : decide ((40000 : Int) < (L.length : Int)) = false := decide_eq_false (by omega)
          go_wp2_with fail
          refine (refLetters_any L _ _ (hv.sub (fun _ _ h => h.elim)) (by omega)).mono ?_
          rintro e w2 ⟨rfl, rfl⟩
          by_cases hsame : encL L = s.data.toList
          · have HF : Hid (decFault s = 0) := by unfold Hid decFault; rw [hLL.out, if_pos ⟨by omega, hsame⟩]
            have HO : Hid (decodeR s = L) := by unfold Hid decodeR; rw [HF.out, if_pos rfl, hLL.out]
            have ts : ((toB (encL L)).toList == s.toList) = true := by rw [Lib.toList_data, Lib.toList_data, toB_data]; simp [hsame]
            clear hsame hown
            go_wp2_with fail
            go_ret2
            exact ⟨_, by rw [HF.out]; rfl, hw, by rw [HO.out]; exact hv⟩
          · have HF : Hid (decFault s = 5) := by unfold Hid decFault; rw [hLL.out, if_neg (by rintro ⟨_, h⟩; exact hsame h)]
            have HO : Hid (decodeR s = []) := by unfold Hid decodeR; rw [HF.out, if_neg (by decide)]
            have ts : ((toB (encL L)).toList == s.toList) = false := by rw [Lib.toList_data, Lib.toList_data, toB_data]; simp [hsame]
            clear hsame hown
            go_wp2_with fail
            go_ret2
            exact ⟨_, by rw [HF.out]; rfl, hw, by rw [HO.out]; exact rdv_nil _ _⟩
end Go.Proofs.YtcgjegjnodopoaaDoor
