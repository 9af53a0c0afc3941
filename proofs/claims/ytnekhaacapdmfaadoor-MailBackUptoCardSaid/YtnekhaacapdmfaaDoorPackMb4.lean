/-
  PARTS: THE WALK of the document's BytesOf.; THE WALKS of mail.Check, Print, field; of the document's Find, Starts, Ends, MailFault, MailText.; HOW ARGUMENTS READ: mails.; THE DOCUMENT'S WAY WITH A MAIL'S TEXT, in plain Lean: it reads what the program reads.; THE WALKS of mail.Print, field; of the document's Find, Starts, Ends, MailFault, MailText.; BOXES, in plain Lean (chapter 12): one mail behind the other.; PARTS BETWEEN CUTS, in plain Lean: the library's splits are those of the plain laws.; THE WALKS of mail.field; of the document's Find, Starts, Ends, MailFault, MailText.; THE WALKS of the document's Find, MailFault, MailText.
-/
import Derived.Test.YtnekhaacapdmfaaDoorPackMb3
import Derived.Test.YtnekhaacapdmfaaDoorPackMb2
import Derived.Test.YtnekhaacapdmfaaDoorPackMb1
import Derived.Lib.SmallJoins
import Derived.Lib.SplitLaws
namespace Go.Proofs.YtnekhaacapdmfaaDoor
open Go.RowKit

theorem line_len : ∀ (k : Nat) (s : List UInt8), s.length ≤ k → (lineGo s).length ≤ s.length + s.length / 76 + 1
  | 0, s, h => by
    have : s = [] := List.eq_nil_of_length_eq_zero (by omega)
    subst this
    rw [lineGo]; simp
  | k + 1, s, h => by
    rw [lineGo]
    by_cases h76 : 76 < s.length
    · have ih := line_len k (s.drop 76) (by rw [List.length_drop]; omega)
      rw [if_pos h76, List.length_append, List.length_append, List.length_take]
      rw [List.length_drop] at ih
      simp only [List.length_singleton]
      omega
    · rw [if_neg h76]
      split
      · simp
      · simp
theorem enc_short_len {l : List UInt8} (h : l.length ≤ 40000) : (encL l).length ≤ 60000 := by
  rw [← line_flat l.length l (Nat.le_refl _)]
  have h1 := flat_len l.length l (Nat.le_refl _)
  have h2 := line_len (flatE l).length (flatE l) (Nat.le_refl _)
  omega
theorem idx_some {c : UInt8} {q : Nat} (h : idxOf c = some q) : letterAt q = c := by
  unfold idxOf at h
  obtain ⟨h1, h2, _⟩ := List.findIdx?_eq_some_iff_getElem.1 h
  unfold letterAt
  rw [List.getD_eq_getElem?_getD, List.getElem?_eq_getElem h1]
  exact eq_of_beq h2
theorem idx_none {c : UInt8} (h : ∀ j, j < 64 → letterAt j ≠ c) : idxOf c = none := by
  cases e : idxOf c with
  | none => rfl
  | some q => exact absurd (idx_some e) (h q (idx_lt e))

theorem read_some {s L : List UInt8} (h : refDec s 0 0 [] = some L) : decL s = L := by
  have := read_same s
  rw [h] at this
  exact this.symm
theorem read_none {s : ByteArray} (h : refDec s.data.toList 0 0 [] = none) : decFault s = 5 := by
  have := read_same s.data.toList
  rw [h] at this
  unfold decFault
  rw [if_neg (fun q => this q.2)]

set_option maxHeartbeats 4000000 in
set_option maxRecDepth 100000 in
theorem refBytes_any (s : ByteArray) (w : World) (hs : s.size ≤ 10000000) :
    Calls Tryd.prog 42 #[.string s] w fun e w' => ∃ r, e = .returned (.tuple #[r, .int .i64 (decFault s)]) ∧ Chg Never w w' ∧ Rdv w' (Old w.heap.size) r (decodeR s) := by
  by_cases h6 : 60000 < s.size
  · have HF : Hid (decFault s = 5) := by
      unfold Hid decFault
      rw [if_neg]
      rintro ⟨q1, q2⟩
      have := enc_short_len q1
      rw [q2, ← Lib.size_eq] at this
      omega
    have HO : Hid (decodeR s = []) := by unfold Hid decodeR; rw [HF.out, if_neg (by decide)]
    go_enter Tryd.func42, Tryd.ntmps42
    go_wp2_with fail
    go_ret2
    exact ⟨_, by rw [HF.out]; rfl, Chg.refl _ _, by rw [HO.out]; exact rdv_nil _ _⟩
  · go_enter Tryd.func42, Tryd.ntmps42
    go_wp2_with fail
    go_loopw [4, 5, 6, 7] (fun o nv bv i wr => ∃ (N b k : Nat) (L : List UInt8), nv = .int .i64 N ∧ bv = .int .i64 b ∧ i = .int .i64 k ∧ k ≤ s.size ∧ (b = 0 ∨ b = 2 ∨ b = 4 ∨ b = 6) ∧ N < 16777216 ∧ L.length ≤ k ∧ Chg Never w wr ∧ Own 5 wr (Old w.heap.size) o L ∧ Hid (refDec (s.data.toList.drop k) N b L = refDec s.data.toList 0 0 [])) (fun _ _ _ i _ => s.size - (intOf i).toNat)
    case atStart => exact ⟨0, 0, 0, [], rfl, rfl, rfl, Nat.zero_le _, .inl rfl, by decide, Nat.le_refl _, Chg.refl _ _, own_nil _ _ _, rfl⟩
    case round =>
      obtain ⟨N, b, k, L, rfl, rfl, rfl, hk, hb, hN, hL, hw, hown, hR⟩ := hrel
      rename World => wr
      by_cases hlt : k < s.size
      · have hfk : Hid (s.data.toList.drop k = s[k] :: s.data.toList.drop (k + 1)) := by
          rw [Hid]
          exact drop_eq (by rw [Array.getElem?_toList, Array.getElem?_eq_getElem hlt]; rfl)
        obtain ⟨c, hc⟩ : ∃ c, s[k] = c := ⟨_, rfl⟩
        rw [hc] at hfk
        by_cases h61 : c = 61
        · have hLL : Hid (decL s.data.toList = L) := by
            refine read_some ?_
            rw [← hR.out, hfk.out, refDec, if_pos h61]
          have t61 : ((c.toNat : Int) != 61) = false := by rw [h61]; rfl
          clear hR hN hb hfk h61
          have hv := hown.rdv
          obtain ⟨ao, capo, rfl, o1, o2, _⟩ := rdv_slice hv
          unfold maxLen at o2
          by_cases hlong : 40000 < L.length
          · have HF : Hid (decFault s = 5) := by unfold Hid decFault; rw [hLL.out, if_neg (by rintro ⟨h, _⟩; omega)]
            have HO : Hid (decodeR s = []) := by unfold Hid decodeR; rw [HF.out, if_neg (by decide)]
            clear hown
            go_wp2_with fail
            go_ret2
            exact ⟨_, by rw [HF.out]; rfl, hw, by rw [HO.out]; exact rdv_nil _ _⟩
          · have t40 : decide ((40000 : Int) < (L.length : Int)) = false := decide_eq_false (by omega)
            go_wp2_with fail
            refine (refLetters_any L _ _ (hv.sub (fun _ _ h => h.elim)) (by omega)).mono ?_
            rintro e w2 ⟨rfl, rfl⟩
            by_cases hsame : encL L = s.data.toList
            · have HF : Hid (decFault s = 0) := by unfold Hid decFault; rw [hLL.out, if_pos ⟨by omega, hsame⟩]
              have HO : Hid (decodeR s = L) := by unfold Hid decodeR; rw [HF.out, if_pos rfl, hLL.out]
              have ts : ((toB (encL L)).toList == s.toList) = true := by rw [Lib.toList_data, Lib.toList_data, toB_data]; simp [hsame]
              clear hsame hown
              go_wp2_with fail
              go_ret2
              exact ⟨_, by rw [HF.out]; rfl, hw, by rw [HO.out]; exact hv⟩
            · have HF : Hid (decFault s = 5) := by unfold Hid decFault; rw [hLL.out, if_neg (by rintro ⟨_, h⟩; exact hsame h)]
              have HO : Hid (decodeR s = []) := by unfold Hid decodeR; rw [HF.out, if_neg (by decide)]
              have ts : ((toB (encL L)).toList == s.toList) = false := by rw [Lib.toList_data, Lib.toList_data, toB_data]; simp [hsame]
              clear hsame hown
              go_wp2_with fail
              go_ret2
              exact ⟨_, by rw [HF.out]; rfl, hw, by rw [HO.out]; exact rdv_nil _ _⟩
        · have t61 : ((c.toNat : Int) != 61) = true := by
            simp only [bne_iff_ne, ne_eq]
            intro e
            exact h61 (UInt8.toNat_inj.1 (by show c.toNat = 61; omega))
          by_cases h10 : c = 10
          · subst h10
            have hR2 : Hid (refDec (s.data.toList.drop (k + 1)) N b L = refDec s.data.toList 0 0 []) := by
              rw [Hid, ← hR.out, hfk.out, refDec, if_neg (by decide), if_pos rfl]
            clear hR hfk h61
            go_wp2_with fail
            go_roundw
            case rel => exact ⟨N, b, k + 1, L, rfl, rfl, by go_num, by omega, hb, hN, by omega, hw, hown, hR2.out⟩
            case measure => simp [intOf]; omega
          · have t10 : ((c.toNat : Int) == 10) = false := by
              simp only [beq_eq_false_iff_ne, ne_eq]
              intro e
              exact h10 (UInt8.toNat_inj.1 (by show c.toNat = 10; omega))
            have H61 := Lib.hid h61
            have H10 := Lib.hid h10
            have hsx : ∀ wx, (Instr.index 9 (.string s) (.int .i64 (k : Int))).run Tryd.prog wx = .ok (.int .u8 c.toNat) wx := fun wx => by
              rw [run_index_string _ _ _ _ _ Tryd.underlying9, dif_pos ⟨by omega, by omega⟩]
              simp only [Int.toNat_natCast, hc]
            clear h61 h10
            go_wp2_with fail
            go_loopw [8] (fun kv wx => ∃ q : Nat, q ≤ 64 ∧ kv = .int .i64 q ∧ Chg Never wr wx ∧ Hid (∀ j, j < q → letterAt j ≠ c)) (fun kv _ => 64 - (intOf kv).toNat)
            case atStart => exact ⟨0, Nat.zero_le _, rfl, Chg.refl _ _, fun j hj => absurd hj (Nat.not_lt_zero j)⟩
            case round =>
              obtain ⟨q, hq, rfl, hwx, hno⟩ := hrel
              rename World => wx
              have hw2' := hw.trans hwx
              have hown2 := hown.never hwx
              by_cases hq64 : q < 64
              · have t64 : decide ((q : Int) < 64) = true := decide_eq_true (by omega)
                by_cases hit : letterAt q = c
                · have hcmp : (((letterAt q).toNat : Int) != (c.toNat : Int)) = false := by rw [hit]; simp
                  have hla := fun wx => letter_at hq64 wx
                  unfold lettersB at hla
                  have hid : Hid (idxOf c = some q) := by rw [Hid, ← hit]; exact idx_letter q hq64
                  have hR2 : Hid ((if 8 ≤ b + 6 then refDec (s.data.toList.drop (k + 1)) ((N * 64 + q) % 16777216) (b + 6 - 8) (L ++ [UInt8.ofNat ((N * 64 + q) % 16777216 / 2 ^ (b + 6 - 8))]) else refDec (s.data.toList.drop (k + 1)) ((N * 64 + q) % 16777216) (b + 6) L) = refDec s.data.toList 0 0 []) := by
                    rw [Hid, ← hR.out, hfk.out, refDec, if_neg H61.out, if_neg H10.out, hid.out]
                  clear hno hit hw hwx hown hR hfk hid
                  go_wp2_with fail
                  go_quiet (fail)
                  have hw3 := hw2'.drewN nq
                  have hown3 := hown2.never ((Chg.refl Never wx).drewN nq)
                  clear hla hown2 hw2'
                  have hqi : ((q : Int) == 64) = false := by simp; omega
                  rcases hb with rfl | rfl | rfl | rfl
                  · have hR3 : Hid (refDec (s.data.toList.drop (k + 1)) ((N * 64 + q) % 16777216) 6 L = refDec s.data.toList 0 0 []) := by have := hR2.out; rw [if_neg (by decide)] at this; exact this
                    go_wp2_with fail
                    go_roundw
                    case rel => exact ⟨(N * 64 + q) % 16777216, 6, k + 1, L, by first | rfl | (congr 1), rfl, by go_num, by omega, .inr (.inr (.inr rfl)), by omega, by omega, hw3, hown3, hR3.out⟩
                    case measure => simp [intOf]; omega
                  · have hR3 : Hid (refDec (s.data.toList.drop (k + 1)) ((N * 64 + q) % 16777216) 0 (L ++ [UInt8.ofNat ((N * 64 + q) % 16777216 / 1)]) = refDec s.data.toList 0 0 []) := by have := hR2.out; rw [if_pos (by decide)] at this; exact this
                    have hyv : ((UInt8.ofNat ((N * 64 + q) % 16777216 / 1)).toNat : Int) = ((N : Int) * 64 + (q : Int)) % 256 := by
                      rw [UInt8.toNat_ofNat']
                      omega
                    go_wp2_with (at_builtin; refine wpList_push (by rfl) _ _ 22 (by rfl) elemOk_byte (O := Old w.heap.size) (l := L) (y := UInt8.ofNat ((N * 64 + q) % 16777216 / 1)) (by rfl) (by rfl) (by simp) hown3 (by show _ = _; rw [hyv]) (old_lt hw3) (by omega) ?_; intro v' w7 hown4 hc7 _)
                    have hw4 := own_step hw3 hown3 hc7
                    clear hc7 hown3 hw3 hyv
                    go_wp2_with fail
                    go_roundw
                    case rel => exact ⟨(N * 64 + q) % 16777216, 0, k + 1, L ++ [UInt8.ofNat ((N * 64 + q) % 16777216 / 1)], by first | rfl | (congr 1), rfl, by go_num, by omega, .inl rfl, by omega, by simp; omega, hw4, hown4, hR3.out⟩
                    case measure => simp [intOf]; omega
                  · have hR3 : Hid (refDec (s.data.toList.drop (k + 1)) ((N * 64 + q) % 16777216) 2 (L ++ [UInt8.ofNat ((N * 64 + q) % 16777216 / 4)]) = refDec s.data.toList 0 0 []) := by have := hR2.out; rw [if_pos (by decide)] at this; exact this
                    have hyv : ((UInt8.ofNat ((N * 64 + q) % 16777216 / 4)).toNat : Int) = ((N : Int) * 64 + (q : Int)) % 16777216 / 4 % 256 := by
                      rw [UInt8.toNat_ofNat']
                      omega
                    go_wp2_with (at_builtin; refine wpList_push (by rfl) _ _ 22 (by rfl) elemOk_byte (O := Old w.heap.size) (l := L) (y := UInt8.ofNat ((N * 64 + q) % 16777216 / 4)) (by rfl) (by rfl) (by simp) hown3 (by show _ = _; rw [hyv]) (old_lt hw3) (by omega) ?_; intro v' w7 hown4 hc7 _)
                    have hw4 := own_step hw3 hown3 hc7
                    clear hc7 hown3 hw3 hyv
                    go_wp2_with fail
                    go_roundw
                    case rel => exact ⟨(N * 64 + q) % 16777216, 2, k + 1, L ++ [UInt8.ofNat ((N * 64 + q) % 16777216 / 4)], by first | rfl | (congr 1), rfl, by go_num, by omega, .inr (.inl rfl), by omega, by simp; omega, hw4, hown4, hR3.out⟩
                    case measure => simp [intOf]; omega
                  · have hR3 : Hid (refDec (s.data.toList.drop (k + 1)) ((N * 64 + q) % 16777216) 4 (L ++ [UInt8.ofNat ((N * 64 + q) % 16777216 / 16)]) = refDec s.data.toList 0 0 []) := by have := hR2.out; rw [if_pos (by decide)] at this; exact this
                    have hyv : ((UInt8.ofNat ((N * 64 + q) % 16777216 / 16)).toNat : Int) = ((N : Int) * 64 + (q : Int)) % 16777216 / 16 % 256 := by
                      rw [UInt8.toNat_ofNat']
                      omega
                    go_wp2_with (at_builtin; refine wpList_push (by rfl) _ _ 22 (by rfl) elemOk_byte (O := Old w.heap.size) (l := L) (y := UInt8.ofNat ((N * 64 + q) % 16777216 / 16)) (by rfl) (by rfl) (by simp) hown3 (by show _ = _; rw [hyv]) (old_lt hw3) (by omega) ?_; intro v' w7 hown4 hc7 _)
                    have hw4 := own_step hw3 hown3 hc7
                    clear hc7 hown3 hw3 hyv
                    go_wp2_with fail
                    go_roundw
                    case rel => exact ⟨(N * 64 + q) % 16777216, 4, k + 1, L ++ [UInt8.ofNat ((N * 64 + q) % 16777216 / 16)], by first | rfl | (congr 1), rfl, by go_num, by omega, .inr (.inr (.inl rfl)), by omega, by simp; omega, hw4, hown4, hR3.out⟩
                    case measure => simp [intOf]; omega
                · have hla := fun wx => letter_at hq64 wx
                  unfold lettersB at hla
                  have hcmp : (((letterAt q).toNat : Int) != (c.toNat : Int)) = true := by
                    simp only [bne_iff_ne, ne_eq]
                    intro e
                    exact hit (UInt8.toNat_inj.1 (by show (letterAt q).toNat = _; have : ((letterAt q).toNat : Int) = c.toNat := e; omega))
                  have hno2 : Hid (∀ j, j < q + 1 → letterAt j ≠ c) := fun j hj => by
                    by_cases e : j = q
                    · subst e; exact hit
                    · exact hno.out j (by omega)
                  clear hno hit
                  go_wp2_with fail
                  go_quiet (fail)
                  go_wp2_with fail
                  go_roundw
                  case rel => exact ⟨q + 1, by omega, by go_num, hwx.drewN _, hno2⟩
                  case measure => simp [intOf]; omega
              · obtain rfl : q = 64 := by omega
                have hid : Hid (idxOf c = none) := idx_none hno.out
                have HF : Hid (decFault s = 5) := read_none (by rw [← hR.out, hfk.out, refDec, if_neg H61.out, if_neg H10.out, hid.out])
                have HO : Hid (decodeR s = []) := by unfold Hid decodeR; rw [HF.out, if_neg (by decide)]
                have t64 : decide (((64 : Nat) : Int) < 64) = false := by decide
                clear hno hR hfk hid hown hown2 hw hwx
                go_wp2_with fail
                go_quiet (fail)
                go_wp2_with fail
                go_ret2
                exact ⟨_, by rw [HF.out]; rfl, hw2'.drewN _, by rw [HO.out]; exact rdv_nil _ _⟩
      · have hLL : Hid (decL s.data.toList = L) := by
          refine read_some ?_
          rw [← hR.out, List.drop_of_length_le (by rw [← Lib.size_eq]; omega), refDec]
        clear hR hN hb
        have hv := hown.rdv
        obtain ⟨ao, capo, rfl, o1, o2, _⟩ := rdv_slice hv
        unfold maxLen at o2
        by_cases hlong : 40000 < L.length
        · have HF : Hid (decFault s = 5) := by unfold Hid decFault; rw [hLL.out, if_neg (by rintro ⟨h, _⟩; omega)]
          have HO : Hid (decodeR s = []) := by unfold Hid decodeR; rw [HF.out, if_neg (by decide)]
          clear hown
          go_wp2_with fail
          go_ret2
          exact ⟨_, by rw [HF.out]; rfl, hw, by rw [HO.out]; exact rdv_nil _ _⟩
        · have t40 : decide ((40000 : Int) < (L.length : Int)) = false := decide_eq_false (by omega)
          go_wp2_with fail
          refine (refLetters_any L _ _ (hv.sub (fun _ _ h => h.elim)) (by omega)).mono ?_
          rintro e w2 ⟨rfl, rfl⟩
          by_cases hsame : encL L = s.data.toList
          · have HF : Hid (decFault s = 0) := by unfold Hid decFault; rw [hLL.out, if_pos ⟨by omega, hsame⟩]
            have HO : Hid (decodeR s = L) := by unfold Hid decodeR; rw [HF.out, if_pos rfl, hLL.out]
            have ts : ((toB (encL L)).toList == s.toList) = true := by rw [Lib.toList_data, Lib.toList_data, toB_data]; simp [hsame]
            clear hsame hown
            go_wp2_with fail
            go_ret2
            exact ⟨_, by rw [HF.out]; rfl, hw, by rw [HO.out]; exact hv⟩
          · have HF : Hid (decFault s = 5) := by unfold Hid decFault; rw [hLL.out, if_neg (by rintro ⟨_, h⟩; exact hsame h)]
            have HO : Hid (decodeR s = []) := by unfold Hid decodeR; rw [HF.out, if_neg (by decide)]
            have ts : ((toB (encL L)).toList == s.toList) = false := by rw [Lib.toList_data, Lib.toList_data, toB_data]; simp [hsame]
            clear hsame hown
            go_wp2_with fail
            go_ret2
            exact ⟨_, by rw [HF.out]; rfl, hw, by rw [HO.out]; exact rdv_nil _ _⟩
end Go.Proofs.YtnekhaacapdmfaaDoor
namespace Go.Proofs.YtnekhaacapdmfaaDoor
open Go.RowKit

theorem box1_mail (w : World) (T : TypeId) (a b c : ByteArray) (v : Value) (W : World) (hW : W = w.alloc (.cells #[.string a, .string b, .string c, v] T)) :
    Chg Never w W ∧ W.cell? ⟨w.heap.size, 0, none⟩ = some (.string a) ∧ W.cell? ⟨w.heap.size, 1, none⟩ = some (.string b) ∧ W.cell? ⟨w.heap.size, 2, none⟩ = some (.string c) ∧ W.cell? ⟨w.heap.size, 3, none⟩ = some v := by
  subst hW
  have n := heap_alloc_new w (.cells #[.string a, .string b, .string c, v] T)
  refine ⟨(Chg.refl Never w).alloc _, ?_, ?_, ?_, ?_⟩ <;> (simp only [World.cell?]; rw [n]; rfl)
abbrev mailV (m : Mail) (v : Value) : Value := .agg #[.string m.sender, .string m.subject, .string m.ident, v]
/-- the three texts are no longer than a text may be -/
def MailSz (m : Mail) : Prop := m.sender.size ≤ maxLen ∧ m.subject.size ≤ maxLen ∧ m.ident.size ≤ maxLen
theorem mf_word1 {m : Mail} (h : wordB m.sender.data.toList = false) : mailFault m = 5 := if_pos (.inl h)
theorem mf_word2 {m : Mail} (h : wordB m.subject.data.toList = false) : mailFault m = 5 := if_pos (.inr (.inl h))
theorem mf_word3 {m : Mail} (h : wordB m.ident.data.toList = false) : mailFault m = 5 := if_pos (.inr (.inr (.inl h)))
theorem mf_lt {m : Mail} (h : 60 ∈ m.ident.data.toList) : mailFault m = 5 := if_pos (.inr (.inr (.inr (.inl h))))
theorem mf_gt {m : Mail} (h : 62 ∈ m.ident.data.toList) : mailFault m = 5 := if_pos (.inr (.inr (.inr (.inr h))))
theorem mf_rest {m : Mail} (h1 : wordB m.sender.data.toList = true) (h2 : wordB m.subject.data.toList = true) (h3 : wordB m.ident.data.toList = true) (h4 : 60 ∉ m.ident.data.toList) (h5 : 62 ∉ m.ident.data.toList) : mailFault m = if 40000 < m.body.length then 3 else 0 := by
  unfold mailFault
  rw [if_neg (by rw [h1, h2, h3]; simp [h4, h5])]

set_option maxHeartbeats 2000000 in
set_option maxRecDepth 100000 in
theorem mail_check_any (m : Mail) (v : Value) (w : World) (h : Rdv w Never v m.body) (hsz : MailSz m) :
    Calls Tryd.prog 15 #[mailV m v] w fun e w' => e = .returned (errV (mailFault m)) ∧ Chg Never w w' := by
  obtain ⟨a, cap, rfl, h1, h2, _⟩ := rdv_slice h
  unfold maxLen at h2
  obtain ⟨z1, z2, z3⟩ := hsz
  obtain ⟨hA, b0, b1, b2, b3⟩ := box1_mail w 24 m.sender m.subject m.ident (.slice a m.body.length cap) _ rfl
  cases w1 : wordB m.sender.data.toList with
  | false =>
    have HF := Lib.hid (mf_word1 w1)
    go_enter Tryd.func15, Tryd.ntmps15
    go_wp2_with (first | (go_at_call 36; refine (mail_word_any _ _ (by assumption)).mono ?_; rintro e w' ⟨rfl, rfl⟩) | (go_at_call 37; refine (Tryd.strings_Contains_one _ _ _).mono ?_; rintro e w' ⟨rfl, rfl⟩))
    go_ret
    exact ⟨by rw [HF.out]; rfl, hA⟩
  | true =>
    cases w2 : wordB m.subject.data.toList with
    | false =>
      have HF := Lib.hid (mf_word2 w2)
      go_enter Tryd.func15, Tryd.ntmps15
      go_wp2_with (first | (go_at_call 36; refine (mail_word_any _ _ (by assumption)).mono ?_; rintro e w' ⟨rfl, rfl⟩) | (go_at_call 37; refine (Tryd.strings_Contains_one _ _ _).mono ?_; rintro e w' ⟨rfl, rfl⟩))
      go_ret
      exact ⟨by rw [HF.out]; rfl, hA⟩
    | true =>
      cases w3 : wordB m.ident.data.toList with
      | false =>
        have HF := Lib.hid (mf_word3 w3)
        go_enter Tryd.func15, Tryd.ntmps15
        go_wp2_with (first | (go_at_call 36; refine (mail_word_any _ _ (by assumption)).mono ?_; rintro e w' ⟨rfl, rfl⟩) | (go_at_call 37; refine (Tryd.strings_Contains_one _ _ _).mono ?_; rintro e w' ⟨rfl, rfl⟩))
        go_ret
        exact ⟨by rw [HF.out]; rfl, hA⟩
      | true =>
        by_cases c1 : 60 ∈ m.ident.data.toList
        · have t1 : decide (0 ≤ Lib.indexByte m.ident.data.toList 60) = true := by rw [indexByte_nonneg]; simpa using c1
          have HF := Lib.hid (mf_lt c1)
          clear c1
          go_enter Tryd.func15, Tryd.ntmps15
          go_wp2_with (first | (go_at_call 36; refine (mail_word_any _ _ (by assumption)).mono ?_; rintro e w' ⟨rfl, rfl⟩) | (go_at_call 37; refine (Tryd.strings_Contains_one _ _ _).mono ?_; rintro e w' ⟨rfl, rfl⟩))
          go_ret
          exact ⟨by rw [HF.out]; rfl, hA⟩
        · have t1 : decide (0 ≤ Lib.indexByte m.ident.data.toList 60) = false := by rw [indexByte_nonneg]; simpa using c1
          by_cases c2 : 62 ∈ m.ident.data.toList
          · have t2 : decide (0 ≤ Lib.indexByte m.ident.data.toList 62) = true := by rw [indexByte_nonneg]; simpa using c2
            have HF := Lib.hid (mf_gt c2)
            clear c1 c2
            go_enter Tryd.func15, Tryd.ntmps15
            go_wp2_with (first | (go_at_call 36; refine (mail_word_any _ _ (by assumption)).mono ?_; rintro e w' ⟨rfl, rfl⟩) | (go_at_call 37; refine (Tryd.strings_Contains_one _ _ _).mono ?_; rintro e w' ⟨rfl, rfl⟩))
            go_ret
            exact ⟨by rw [HF.out]; rfl, hA⟩
          · have t2 : decide (0 ≤ Lib.indexByte m.ident.data.toList 62) = false := by rw [indexByte_nonneg]; simpa using c2
            have HR := Lib.hid (mf_rest w1 w2 w3 c1 c2)
            clear c1 c2
            by_cases hb : 40000 < m.body.length
            · have HF : Hid (mailFault m = 3) := by rw [Hid, HR.out, if_pos hb]
              go_enter Tryd.func15, Tryd.ntmps15
              go_wp2_with (first | (go_at_call 36; refine (mail_word_any _ _ (by assumption)).mono ?_; rintro e w' ⟨rfl, rfl⟩) | (go_at_call 37; refine (Tryd.strings_Contains_one _ _ _).mono ?_; rintro e w' ⟨rfl, rfl⟩))
              go_ret
              exact ⟨by rw [HF.out]; rfl, hA⟩
            · have HF : Hid (mailFault m = 0) := by rw [Hid, HR.out, if_neg hb]
              go_enter Tryd.func15, Tryd.ntmps15
              go_wp2_with (first | (go_at_call 36; refine (mail_word_any _ _ (by assumption)).mono ?_; rintro e w' ⟨rfl, rfl⟩) | (go_at_call 37; refine (Tryd.strings_Contains_one _ _ _).mono ?_; rintro e w' ⟨rfl, rfl⟩))
              go_ret
              exact ⟨by rw [HF.out]; rfl, hA⟩
end Go.Proofs.YtnekhaacapdmfaaDoor
namespace Go.Proofs.YtnekhaacapdmfaaDoor
open Go.ChangeShapes Go.WideShapes Go.ChangeAt Go.RowKit

theorem opens_mail {P : Program} {t : TypeId} {f0 f1 f2 f3 : Field} (ht : P.underlying t = some (.struct #[f0, f1, f2, f3])) (hc : P.cellsOf t = 4) (o0 : f0.offset = 0) (o1 : f1.offset = 1) (o2 : f2.offset = 2) (o3 : f3.offset = 3) (k0 : P.cellsOf f0.type = 1) (k1 : P.cellsOf f1.type = 1) (k2 : P.cellsOf f2.type = 1) (k3 : P.cellsOf f3.type = 1)
    (h0 : P.underlying f0.type = some .string) (h1 : P.underlying f1.type = some .string) (h2 : P.underlying f2.type = some .string) (h3 : Opens P f3.type (List UInt8)) : Opens P t Mail := by
  intro H enc w base spare held fuel cs d ps h
  obtain ⟨y0, y1, y2, y3, n, hx, hl, e0, e1, e2, e3⟩ := Go.Joins.trod_struct4 ht h
  rw [hc] at hl
  match cs, hl with
  | [c0, c1, c2, c3], _ =>
    rw [o0, k0] at e0
    rw [o1, k1] at e1
    rw [o2, k2] at e2
    rw [o3, k3] at e3
    obtain ⟨a, a1, a2, a3⟩ := DataW.trod_string h0 e0
    obtain ⟨b, b1, b2, b3⟩ := DataW.trod_string h1 e1
    obtain ⟨c, q1, q2, q3⟩ := DataW.trod_string h2 e2
    simp at a1 b1 q1 e3
    subst a1 b1 q1 a2 b2 q2
    obtain ⟨l, hl1, hl2⟩ := h3 H enc w base spare held n [c3] y3.1 y3.2 e3
    simp only [Prod.mk.injEq] at hx
    obtain ⟨rfl, rfl⟩ := hx
    refine ⟨⟨a, b, c, l⟩, ⟨c3, rfl, a3, b3, q3, hl1⟩, ?_⟩
    show a.size + b.size + c.size + Dat.bulk l + 4 ≤ Rows.uptoBulk (.agg [.lit (.string a.data.toList), .lit (.string b.data.toList), .lit (.string c.data.toList), y3.1])
    simp only [Rows.uptoBulk, Rows.uptoBulkAll]
    rw [Array.length_toList, Array.length_toList, Array.length_toList]
    show a.size + b.size + c.size + Dat.bulk l + 4 ≤ a.size + 1 + (b.size + 1 + (c.size + 1 + (Rows.uptoBulk y3.1 + 0))) + 1
    omega
theorem opens_amail : Opens Tryd.prog 24 Mail := opens_mail Tryd.underlying24 (by kernel_rfl) rfl rfl rfl rfl (by kernel_rfl) (by kernel_rfl) (by kernel_rfl) (by kernel_rfl) Tryd.underlying9 Tryd.underlying9 Tryd.underlying9 opens_bytes
theorem opens_mails : Opens Tryd.prog 25 (List Mail) := opens_slice Tryd.underlying25 (by kernel_rfl) opens_amail
theorem mail_bulk (m : Mail) : m.ident.size ≤ Dat.bulk m := by show m.ident.size ≤ m.sender.size + m.subject.size + m.ident.size + Dat.bulk m.body + 4; omega
theorem mails_bulk (l : List Mail) : ∀ x ∈ l, x.ident.size ≤ Dat.bulk l := by
  intro x hx
  show _ ≤ (l.map Dat.bulk).sum + 1
  induction l with
  | nil => cases hx
  | cons y l ih =>
    rw [List.map_cons, List.sum_cons]
    rcases List.mem_cons.1 hx with rfl | hx
    · have := mail_bulk x; omega
    · have := ih hx; omega
end Go.Proofs.YtnekhaacapdmfaaDoor
namespace Go.Proofs.YtnekhaacapdmfaaDoor

def mailCond (a b c d e : List UInt8) : Bool := fromW.isPrefixOf a && subjW.isPrefixOf b && idW.isPrefixOf c && [62].isSuffixOf c && decide (14 ≤ c.length) && (d == codW) && (e == [])
def mailOfLines (a b c z : List UInt8) : Mail := ⟨toB (a.drop 6), toB (b.drop 9), toB ((c.drop 13).take (c.length - 14)), decL z⟩
def refM (s : List UInt8) : Option Mail := match splitN 5 s with
  | [a, b, c, d, e, z] => if mailCond a b c d e = true ∧ (encL (decL z) = z ∧ (decL z).length ≤ 40000) ∧ mailFault (mailOfLines a b c z) = 0 then some (mailOfLines a b c z) else none
  | _ => none
def joinN : List (List UInt8) → List UInt8
  | [] => []
  | [z] => z
  | x :: r => x ++ [10] ++ joinN r
theorem splitN_ne : ∀ (k : Nat) (s : List UInt8), splitN k s ≠ []
  | 0, s => by rw [splitN]; simp
  | k + 1, s => by
    rw [splitN]
    cases cutSub [10] s with
    | none => simp
    | some p => simp
theorem splitN_join : ∀ (k : Nat) (s : List UInt8), joinN (splitN k s) = s
  | 0, s => by rw [splitN, joinN]
  | k + 1, s => by
    rw [splitN]
    cases hc : cutSub [10] s with
    | none => rw [joinN]
    | some p =>
      obtain ⟨a, b⟩ := p
      have ih := splitN_join k b
      simp only
      obtain ⟨y, l, e⟩ := List.exists_cons_of_ne_nil (splitN_ne k b)
      rw [e, joinN, ← e, ih]
      · exact (cut_some hc).symm
      · simp
theorem pre_take {p a : List UInt8} (h : p.isPrefixOf a = true) : a = p ++ a.drop p.length := by
  rw [List.isPrefixOf_iff_prefix] at h
  obtain ⟨t, rfl⟩ := h
  rw [List.drop_left]
theorem id_take {c : List UInt8} (h1 : idW.isPrefixOf c = true) (h2 : [62].isSuffixOf c = true) (h3 : 14 ≤ c.length) : c = idW ++ ((c.drop 13).take (c.length - 14) ++ [62]) := by
  have e1 := pre_take h1
  rw [show idW.length = 13 by decide] at e1
  rw [List.isSuffixOf_iff_suffix] at h2
  obtain ⟨t, rfl⟩ := h2
  simp only [List.length_append, List.length_singleton] at h3 ⊢
  have ht : 13 ≤ t.length := by omega
  rw [List.drop_append_of_le_length ht] at e1 ⊢
  rw [show t.length + 1 - 14 = (t.drop 13).length by rw [List.length_drop]; omega, List.take_left]
  exact e1
theorem refM_some {s : List UInt8} {m : Mail} (h : refM s = some m) : s = mailText m ∧ mailFault m = 0 := by
  unfold refM at h
  split at h
  · rename_i a b c d e z hsp
    split at h
    · rename_i q
      obtain ⟨q1, ⟨q2, q3⟩, q4⟩ := q
      injection h with h
      subst h
      refine ⟨?_, q4⟩
      unfold mailCond at q1
      simp only [Bool.and_eq_true, decide_eq_true_eq, beq_iff_eq] at q1
      obtain ⟨⟨⟨⟨⟨⟨c1, c2⟩, c3⟩, c4⟩, c5⟩, c6⟩, c7⟩ := q1
      have hj := splitN_join 5 s
      rw [hsp] at hj
      simp only [joinN] at hj
      rw [← hj]
      unfold mailText mailOfLines
      simp only [toB_data]
      have e1 := pre_take c1
      have e2 := pre_take c2
      have e3 := id_take c3 c4 c5
      rw [show fromW.length = 6 by decide] at e1
      rw [show subjW.length = 9 by decide] at e2
      rw [← e1, ← e2, ← e3, q2, c6, c7]
    · cases h
  · cases h
theorem mail_ok {m : Mail} (h : mailFault m = 0) : wordB m.sender.data.toList = true ∧ wordB m.subject.data.toList = true ∧ wordB m.ident.data.toList = true ∧ m.body.length ≤ 40000 := by
  unfold mailFault at h
  by_cases h1 : wordB m.sender.data.toList = false ∨ wordB m.subject.data.toList = false ∨ wordB m.ident.data.toList = false ∨ 60 ∈ m.ident.data.toList ∨ 62 ∈ m.ident.data.toList
  · rw [if_pos h1] at h; cases h
  · rw [if_neg h1] at h
    by_cases h2 : 40000 < m.body.length
    · rw [if_pos h2] at h; cases h
    · simp only [not_or, Bool.not_eq_false] at h1
      exact ⟨h1.1, h1.2.1, h1.2.2.1, by omega⟩
theorem mail_split {m : Mail} (h : mailFault m = 0) : splitN 5 (mailText m) = [fromW ++ m.sender.data.toList, subjW ++ m.subject.data.toList, idW ++ (m.ident.data.toList ++ [62]), codW, [], encL m.body] := by
  obtain ⟨w1, w2, w3, _⟩ := mail_ok h
  have join : ∀ {a b : List UInt8}, (∀ c ∈ a, c ≠ 10) → (∀ c ∈ b, c ≠ 10) → ∀ c ∈ a ++ b, c ≠ 10 := fun ha hb c hc => by
    rcases List.mem_append.1 hc with q | q
    · exact ha c q
    · exact hb c q
  unfold mailText
  rw [split_next 4 _ (join (by decide) (word_nl w1)), split_next 3 _ (join (by decide) (word_nl w2)), split_next 2 _ (join (by decide) (join (word_nl w3) (by decide))), split_next 1 _ (by decide), split_next 0 _ (by simp), splitN]
theorem ref_back {m : Mail} (h : mailFault m = 0) : refM (mailText m) = some m := by
  obtain ⟨w1, w2, w3, w4⟩ := mail_ok h
  unfold refM
  rw [mail_split h]
  simp only
  have e1 : (fromW ++ m.sender.data.toList).drop 6 = m.sender.data.toList := List.drop_left (l₁ := fromW)
  have e2 : (subjW ++ m.subject.data.toList).drop 9 = m.subject.data.toList := List.drop_left (l₁ := subjW)
  have e3 : (((idW ++ (m.ident.data.toList ++ [62])).drop 13).take ((idW ++ (m.ident.data.toList ++ [62])).length - 14)) = m.ident.data.toList := by
    have e4 : (idW ++ (m.ident.data.toList ++ [62])).drop 13 = m.ident.data.toList ++ [62] := List.drop_left (l₁ := idW)
    rw [e4]
    rw [List.length_append, List.length_append, show idW.length = 13 by decide, List.length_singleton, show 13 + (m.ident.data.toList.length + 1) - 14 = m.ident.data.toList.length by omega, List.take_left]
  have hm : mailOfLines (fromW ++ m.sender.data.toList) (subjW ++ m.subject.data.toList) (idW ++ (m.ident.data.toList ++ [62])) (encL m.body) = m := by
    unfold mailOfLines
    rw [e1, e2, e3, dec_encL, toB_of, toB_of, toB_of]
  have hc : mailCond (fromW ++ m.sender.data.toList) (subjW ++ m.subject.data.toList) (idW ++ (m.ident.data.toList ++ [62])) codW [] = true := by
    unfold mailCond
    simp only [Bool.and_eq_true, decide_eq_true_eq, beq_iff_eq, List.isPrefixOf_iff_prefix, List.isSuffixOf_iff_suffix]
    refine ⟨⟨⟨⟨⟨⟨⟨_, rfl⟩, ⟨_, rfl⟩⟩, ⟨_, rfl⟩⟩, ⟨idW ++ m.ident.data.toList, by rw [List.append_assoc]⟩⟩, ?_⟩, trivial⟩, trivial⟩
    rw [List.length_append, List.length_append, show idW.length = 13 by decide]
    simp only [List.length_singleton]
    omega
  rw [hm, if_pos ⟨hc, ⟨by rw [dec_encL], by rw [dec_encL]; exact w4⟩, h⟩]
/-- what the document reads is what the program reads -/
theorem ref_mail (s : List UInt8) : refM s = parseM s := by
  cases hp : parseM s with
  | some m =>
    obtain ⟨h1, h2⟩ := mail_some hp
    rw [← h1, ref_back h2]
  | none =>
    cases hr : refM s with
    | none => rfl
    | some m =>
      obtain ⟨h1, h2⟩ := refM_some hr
      rw [h1, mail_back h2] at hp
      cases hp
end Go.Proofs.YtnekhaacapdmfaaDoor
namespace Go.Proofs.YtnekhaacapdmfaaDoor
open Go.RowKit

def printR (m : Mail) : ByteArray := if mailFault m = 0 then toB (mailText m) else ByteArray.empty
def printB (m : Mail) (y : ByteArray) : ByteArray := toB fromW ++ m.sender ++ toB (10 :: subjW) ++ m.subject ++ toB (10 :: idW) ++ m.ident ++ toB [62, 10] ++ toB codW ++ toB [10, 10] ++ y
theorem printB_eq (m : Mail) : toB (mailText m) = printB m (toB (encL m.body)) := by
  apply ByteArray.ext
  apply Array.toList_inj.1
  unfold printB
  simp only [bytes_append, toB_data]
  unfold mailText
  simp
theorem word_size {s : ByteArray} (h : wordB s.data.toList = true) : s.size ≤ 40 := by
  unfold wordB at h
  simp only [Bool.and_eq_true, decide_eq_true_eq] at h
  rw [Lib.size_eq]
  exact h.1.2

set_option maxHeartbeats 2000000 in
set_option maxRecDepth 100000 in
theorem mail_print_any (m : Mail) (v : Value) (w : World) (h : Rdv w Never v m.body) (hsz : MailSz m) :
    Calls Tryd.prog 7 #[mailV m v] w fun e w' => e = .returned (.tuple #[.string (printR m), errV (mailFault m)]) ∧ Chg Never w w' := by
  have hv := h
  obtain ⟨a, cap, rfl, h1, h2, _⟩ := rdv_slice h
  unfold maxLen at h2
  obtain ⟨hA, b0, b1, b2, b3⟩ := box1_mail w 24 m.sender m.subject m.ident (.slice a m.body.length cap) _ rfl
  by_cases hz : mailFault m = 0
  · obtain ⟨w1, w2, w3, w4⟩ := mail_ok hz
    have s1 := word_size w1
    have s2 := word_size w2
    have s3 := word_size w3
    obtain ⟨e1, e2⟩ : encodeR m.body = toB (encL m.body) ∧ encFault m.body = 0 := ⟨if_neg (by omega), if_neg (by omega)⟩
    have hel := enc_short_len w4
    have HE1 := Lib.hid e1
    have HE2 := Lib.hid e2
    have HR : Hid (printR m = printB m (toB (encL m.body))) := by rw [Hid, printR, if_pos hz, printB_eq]
    have HZ := Lib.hid hz
    clear hz w1 w2 w3 e1 e2
    go_enter Tryd.func7, Tryd.ntmps7
    go_wp2_with fail
    generalize w.alloc (.cells #[.string m.sender, .string m.subject, .string m.ident, .slice a m.body.length cap] 24) = wA at hA b0 b1 b2 b3 ⊢
    refine (mail_check_any m _ _ (hv.never hA) hsz).mono ?_
    rintro e w5 ⟨rfl, hc5⟩
    have hw := hA.trans hc5
    have b0 := hc5.cellNever b0
    have b1 := hc5.cellNever b1
    have b2 := hc5.cellNever b2
    have b3 := hc5.cellNever b3
    rw [HZ.out, errV_zero]
    clear hc5 hA
    go_wp2_with fail
    refine (Encode_any m.body _ _ (hv.never hw)).mono ?_
    rintro e w6 ⟨rfl, hc6⟩
    have hw := hw.trans hc6
    have b0 := hc6.cellNever b0
    have b1 := hc6.cellNever b1
    have b2 := hc6.cellNever b2
    rw [HE1.out, HE2.out, errV_zero]
    clear hc6 b3
    obtain ⟨y, hy⟩ : ∃ y, toB (encL m.body) = y := ⟨_, rfl⟩
    have hyz : y.size ≤ 60000 := by rw [← hy, Lib.size_eq, toB_data]; exact hel
    rw [hy] at HR ⊢
    clear hy hel
    go_wp2_with fail
    go_ret2
    exact ⟨by rw [HR.out, HZ.out]; rfl, hw⟩
  · have HR : Hid (printR m = ByteArray.empty) := if_neg hz
    have HZ := Lib.hid hz
    clear hz
    go_enter Tryd.func7, Tryd.ntmps7
    go_wp2_with fail
    generalize w.alloc (.cells #[.string m.sender, .string m.subject, .string m.ident, .slice a m.body.length cap] 24) = wA at hA b0 b1 b2 b3 ⊢
    refine (mail_check_any m _ _ (hv.never hA) hsz).mono ?_
    rintro e w5 ⟨rfl, hc5⟩
    have hw := hA.trans hc5
    rw [errV_pos HZ.out]
    clear b0 b1 b2 b3
    go_wp2_with fail
    go_ret2
    exact ⟨by rw [HR.out, errV_pos HZ.out]; rfl, hw⟩
end Go.Proofs.YtnekhaacapdmfaaDoor
namespace Go.Proofs.YtnekhaacapdmfaaDoor

def markW : List UInt8 := [70, 114, 111, 109, 32, 45, 32, 10]
def sepW : List UInt8 := 10 :: markW
def boxText (l : List Mail) : List UInt8 := l.flatMap fun m => markW ++ (mailText m ++ [10])
def splitAll : Nat → List UInt8 → List (List UInt8)
  | 0, s => [s]
  | k + 1, s => match cutSub sepW s with
    | none => [s]
    | some (a, b) => a :: splitAll k b
/-- no newline of a text has the mark behind it -/
def Clean (t : List UInt8) : Prop := ∀ u v r, t = u ++ 10 :: v → markW.isPrefixOf (v ++ 10 :: r) = false
theorem clean_tail {c : UInt8} {t : List UInt8} (h : Clean (c :: t)) : Clean t := fun u v r e => h (c :: u) v r (by rw [e]; rfl)
theorem cut_clean (b : List UInt8) : ∀ {t : List UInt8}, Clean t → cutSub sepW (t ++ sepW ++ b) = some (t, b)
  | [], _ => by
    rw [List.nil_append]
    show cutSub sepW (10 :: (markW ++ b)) = _
    rw [cutSub, if_pos (by rw [List.isPrefixOf_iff_prefix]; exact ⟨b, rfl⟩)]
    show some ([], (sepW ++ b).drop sepW.length) = _
    rw [List.drop_left]
  | c :: t, h => by
    rw [List.cons_append, List.cons_append, cutSub, if_neg, cut_clean b (clean_tail h)]
    · rfl
    · intro q
      unfold sepW at q
      rw [List.isPrefixOf, Bool.and_eq_true] at q
      obtain ⟨q1, q2⟩ := q
      have q1 : c = 10 := (eq_of_beq q1).symm
      subst q1
      have := h [] t (markW ++ b) rfl
      rw [show t ++ 10 :: (markW ++ b) = t ++ 10 :: markW ++ b by simp] at this
      rw [q2] at this; cases this
theorem cut_last : ∀ {t : List UInt8}, Clean t → cutSub sepW (t ++ [10]) = none
  | [], _ => rfl
  | c :: t, h => by
    rw [List.cons_append, cutSub, if_neg, cut_last (t := t) (clean_tail h)]
    · rfl
    · intro q
      unfold sepW at q
      rw [List.isPrefixOf, Bool.and_eq_true] at q
      obtain ⟨q1, q2⟩ := q
      have q1 : c = 10 := (eq_of_beq q1).symm
      subst q1
      rw [h [] t [] rfl] at q2; cases q2
theorem clean_line {t : List UInt8} (ht : ∀ r, markW.isPrefixOf (t ++ 10 :: r) = false) (hc : Clean t) : ∀ {a : List UInt8}, (∀ c ∈ a, c ≠ 10) → Clean (a ++ [10] ++ t)
  | [], _, u, v, r, e => by
    cases u with
    | nil =>
      injection e with _ e
      rw [← e]; exact ht r
    | cons x u =>
      injection e with _ e
      exact hc u v r e
  | c :: a, h, u, v, r, e => by
    cases u with
    | nil =>
      injection e with e _
      exact absurd e (h c (List.mem_cons_self ..))
    | cons x u =>
      injection e with _ e
      exact clean_line ht hc (fun d hd => h d (List.mem_cons_of_mem _ hd)) u v r e
theorem mark_space (r : List UInt8) : ∀ (v : List UInt8), (∀ c ∈ v, c ≠ 32) → markW.isPrefixOf (v ++ 10 :: r) = false
  | [], _ => rfl
  | [a], _ => by simp [markW, List.isPrefixOf]
  | [a, b], _ => by simp [markW, List.isPrefixOf]
  | [a, b, c], _ => by simp [markW, List.isPrefixOf]
  | [a, b, c, d], _ => by simp [markW, List.isPrefixOf]
  | a :: b :: c :: d :: e :: v, h => by
    have he : e ≠ 32 := h e (by simp)
    have : (32 == e) = false := by simpa using fun q => he q.symm
    simp [markW, List.isPrefixOf, this]
theorem clean_space {t : List UInt8} (h : ∀ c ∈ t, c ≠ 32) : Clean t := fun u v r e => mark_space r v fun c hc => h c (by rw [e]; simp [hc])
theorem letter_sp : ∀ k, k < 64 → letterAt k ≠ 32 := by decide +kernel
theorem enc_sp : ∀ (k : Nat) (l : List UInt8) (n : Nat), l.length ≤ k → ∀ c ∈ encGo l n, c ≠ 32
  | _, [], n, _, c, hc => by rw [encGo] at hc; cases hc
  | 0, _ :: _, _, h, _, _ => by simp at h
  | k + 1, x :: r, n, h, c, hc => by
    rw [encGo] at hc
    rcases List.mem_append.1 hc with hc | hc
    · rcases List.mem_append.1 hc with hc | hc
      · unfold fourOf at hc
        obtain ⟨i, _, rfl⟩ := List.mem_map.1 hc
        split
        · decide
        · exact letter_sp _ (Nat.mod_lt _ (by decide))
      · split at hc
        · rw [List.mem_singleton.1 hc]; decide
        · cases hc
    · exact enc_sp k _ _ (by simp at h ⊢; omega) c hc
theorem mail_clean {m : Mail} (h : mailFault m = 0) : Clean (mailText m) := by
  unfold mailFault at h
  by_cases h1 : wordB m.sender.data.toList = false ∨ wordB m.subject.data.toList = false ∨ wordB m.ident.data.toList = false ∨ 60 ∈ m.ident.data.toList ∨ 62 ∈ m.ident.data.toList
  · rw [if_pos h1] at h; cases h
  · have w1 : wordB m.sender.data.toList = true := by
      cases e : wordB m.sender.data.toList with
      | true => rfl
      | false => exact absurd (.inl e) h1
    have w2 : wordB m.subject.data.toList = true := by
      cases e : wordB m.subject.data.toList with
      | true => rfl
      | false => exact absurd (.inr (.inl e)) h1
    have w3 : wordB m.ident.data.toList = true := by
      cases e : wordB m.ident.data.toList with
      | true => rfl
      | false => exact absurd (.inr (.inr (.inl e))) h1
    have join : ∀ {a b : List UInt8}, (∀ c ∈ a, c ≠ 10) → (∀ c ∈ b, c ≠ 10) → ∀ c ∈ a ++ b, c ≠ 10 := fun ha hb c hc => by
      rcases List.mem_append.1 hc with q | q
      · exact ha c q
      · exact hb c q
    have he : Clean (encL m.body) := clean_space (enc_sp _ _ _ (Nat.le_refl _))
    have h5 : Clean ([] ++ [10] ++ encL m.body) := clean_line (fun r => mark_space r _ (enc_sp _ _ _ (Nat.le_refl _))) he (by simp)
    have h4 : Clean (codW ++ [10] ++ ([] ++ [10] ++ encL m.body)) := clean_line (fun r => rfl) h5 (by decide)
    have h3 := clean_line (a := idW ++ (m.ident.data.toList ++ [62])) (fun r => rfl) h4 (join (by decide) (join (word_nl w3) (by decide)))
    have h2 := clean_line (a := subjW ++ m.subject.data.toList) (fun r => rfl) h3 (join (by decide) (word_nl w2))
    exact clean_line (a := fromW ++ m.sender.data.toList) (fun r => rfl) h2 (join (by decide) (word_nl w1))
def allM : List (List UInt8) → Option (List Mail)
  | [] => some []
  | s :: r => match parseM s with
    | none => none
    | some m => (allM r).map fun l => m :: l
def parseBox (s : List UInt8) : Option (List Mail) :=
  if s = [] then some [] else match dropPre markW s with
  | none => none
  | some r => if 16 < (splitAll r.length r).length then none else match dropSuf [10] ((splitAll r.length r).getLastD []) with
    | none => none
    | some y => allM ((splitAll r.length r).dropLast ++ [y])
def tailB (m : Mail) (l : List Mail) : List UInt8 := mailText m ++ [10] ++ boxText l
theorem box_cons (m : Mail) (l : List Mail) : boxText (m :: l) = markW ++ tailB m l := by
  show (markW ++ (mailText m ++ [10])) ++ boxText l = _
  unfold tailB
  simp
theorem split_box : ∀ (l : List Mail) (m : Mail) (k : Nat), l.length ≤ k → mailFault m = 0 → (∀ x ∈ l, mailFault x = 0) → ∃ a z, splitAll k (tailB m l) = a ++ [z ++ [10]] ∧ a ++ [z] = (m :: l).map mailText
  | [], m, k, _, hm, _ => by
    refine ⟨[], mailText m, ?_, rfl⟩
    have e : tailB m [] = mailText m ++ [10] := by unfold tailB boxText; simp
    rw [e]
    cases k with
    | zero => rfl
    | succ k => rw [splitAll, cut_last (mail_clean hm)]; rfl
  | x :: l, m, k, hk, hm, hl => by
    obtain ⟨k, rfl⟩ : ∃ j, k = j + 1 := ⟨k - 1, by simp at hk; omega⟩
    obtain ⟨a, z, h1, h2⟩ := split_box l x k (by simpa using hk) (hl x (List.mem_cons_self ..)) fun y hy => hl y (List.mem_cons_of_mem _ hy)
    refine ⟨mailText m :: a, z, ?_, by rw [List.cons_append, h2]; rfl⟩
    have e : tailB m (x :: l) = mailText m ++ sepW ++ tailB x l := by
      show mailText m ++ [10] ++ boxText (x :: l) = _
      rw [box_cons]
      unfold sepW
      simp
    rw [e, splitAll, cut_clean _ (mail_clean hm)]
    simp only
    rw [h1]; rfl
theorem all_back : ∀ (l : List Mail), (∀ x ∈ l, mailFault x = 0) → allM (l.map mailText) = some l
  | [], _ => rfl
  | m :: l, h => by
    rw [List.map_cons, allM, mail_back (h m (List.mem_cons_self ..))]
    simp only
    rw [all_back l fun x hx => h x (List.mem_cons_of_mem _ hx)]; rfl
theorem box_len : ∀ (l : List Mail), l.length ≤ (boxText l).length
  | [] => Nat.le_refl _
  | m :: l => by
    rw [box_cons]
    unfold tailB markW
    have := box_len l
    simp only [List.length_append, List.length_cons, List.length_nil]
    omega
/-- what is boxed is opened -/
theorem box_back {l : List Mail} (hl : l.length ≤ 16) (h : ∀ x ∈ l, mailFault x = 0) : parseBox (boxText l) = some l := by
  cases l with
  | nil => rfl
  | cons m l =>
    have hk : l.length ≤ (tailB m l).length := by
      have := box_len l
      unfold tailB
      simp only [List.length_append, List.length_cons, List.length_nil]
      omega
    obtain ⟨a, z, h1, h2⟩ := split_box l m _ hk (h m (List.mem_cons_self ..)) fun y hy => h y (List.mem_cons_of_mem _ hy)
    have hlen : (a ++ [z ++ [10]]).length = (m :: l).length := by
      have := congrArg List.length h2
      rw [List.length_map] at this
      rw [← this]
      simp
    rw [box_cons]
    unfold parseBox
    rw [if_neg (by unfold markW; simp), pre_app]
    simp only
    rw [h1, if_neg (by omega), List.getLastD_concat, suf_app, List.dropLast_concat]
    simp only
    rw [h2, all_back _ h]
theorem box_app (l k : List Mail) : boxText (l ++ k) = boxText l ++ boxText k := List.flatMap_append ..
end Go.Proofs.YtnekhaacapdmfaaDoor
namespace Go.Proofs.YtnekhaacapdmfaaDoor

theorem cut_index {t : List UInt8} (ht : t ≠ []) : ∀ (s : List UInt8), match cutSub t s with
    | none => Lib.index s t = -1
    | some p => Lib.index s t = (p.1.length : Int) ∧ p.1 = s.take p.1.length ∧ p.2 = s.drop (p.1.length + t.length)
  | [] => by
    rw [cutSub, if_neg ht]
    show Lib.index [] t = -1
    unfold Lib.index
    rw [if_neg (by simpa using ht)]
  | c :: r => by
    have ih := cut_index ht r
    rw [cutSub]
    by_cases hp : t.isPrefixOf (c :: r) = true
    · rw [if_pos hp]
      refine ⟨?_, rfl, by simp⟩
      unfold Lib.index
      rw [if_pos hp]; rfl
    · rw [if_neg hp]
      cases hc : cutSub t r with
      | none =>
        rw [hc] at ih
        show Lib.index (c :: r) t = -1
        unfold Lib.index
        rw [if_neg hp, ih]; rfl
      | some p =>
        rw [hc] at ih
        obtain ⟨h1, h2, h3⟩ := ih
        show Lib.index (c :: r) t = ((c :: p.1).length : Int) ∧ c :: p.1 = (c :: r).take (c :: p.1).length ∧ p.2 = (c :: r).drop ((c :: p.1).length + t.length)
        refine ⟨?_, ?_, ?_⟩
        · unfold Lib.index
          rw [if_neg hp, h1, if_neg (by simp), List.length_cons]; omega
        · rw [List.length_cons, List.take_succ_cons, ← h2]
        · rw [List.length_cons, show p.1.length + 1 + t.length = p.1.length + t.length + 1 by omega, List.drop_succ_cons]; exact h3
/-- cut so many times at most -/
def cutsK (t : List UInt8) : Nat → List UInt8 → List (List UInt8)
  | 0, s => [s]
  | k + 1, s => match cutSub t s with
    | none => [s]
    | some (a, b) => a :: cutsK t k b
theorem splitK_cuts {t : List UInt8} (ht : t ≠ []) : ∀ (k : Nat) (s : List UInt8), Lib.splitK t 0 k s = cutsK t k s
  | 0, s => rfl
  | k + 1, s => by
    have h := cut_index ht s
    rw [Lib.splitK, cutsK]
    cases hc : cutSub t s with
    | none =>
      rw [hc] at h
      rw [if_pos (by rw [h]; rfl)]
    | some p =>
      rw [hc] at h
      obtain ⟨h1, h2, h3⟩ := h
      rw [if_neg (by rw [h1]; simp), h1]
      simp only [Int.toNat_natCast, Nat.add_zero]
      rw [← h2, ← h3, splitK_cuts ht k p.2]
theorem splitN_cuts : ∀ (k : Nat) (s : List UInt8), splitN k s = cutsK [10] k s
  | 0, s => rfl
  | k + 1, s => by
    rw [splitN, cutsK]
    cases cutSub [10] s with
    | none => rfl
    | some p => simp only; rw [splitN_cuts k p.2]
theorem splitAll_cuts : ∀ (k : Nat) (s : List UInt8), splitAll k s = cutsK sepW k s
  | 0, s => rfl
  | k + 1, s => by
    rw [splitAll, cutsK]
    cases cutSub sepW s with
    | none => rfl
    | some p => simp only; rw [splitAll_cuts k p.2]
theorem cut_shorter {t s : List UInt8} {p : List UInt8 × List UInt8} (ht : t ≠ []) (h : cutSub t s = some p) : p.2.length < s.length := by
  have := cut_some (a := p.1) (b := p.2) h
  have hl := congrArg List.length this
  simp only [List.length_append] at hl
  have := List.length_pos_iff.2 ht
  omega
/-- so many cuts are enough -/
theorem cuts_enough {t : List UInt8} (ht : t ≠ []) : ∀ (n k j : Nat) (s : List UInt8), s.length ≤ n → Lib.count s t ≤ k → Lib.count s t ≤ j → cutsK t k s = cutsK t j s
  | n, k, j, s, hn, hk, hj => by
    have h := cut_index ht s
    cases hc : cutSub t s with
    | none =>
      match k, j with
      | 0, 0 => rfl
      | 0, j + 1 => rw [cutsK, cutsK, hc]
      | k + 1, 0 => rw [cutsK, cutsK, hc]
      | k + 1, j + 1 => rw [cutsK, cutsK, hc]
    | some p =>
      rw [hc] at h
      obtain ⟨h1, h2, h3⟩ := h
      have hcnt := Lib.count_hit ht h1
      rw [← h3] at hcnt
      have hsh := cut_shorter ht hc
      match n, k, j, hn, hk, hj with
      | 0, _, _, hn, _, _ => omega
      | n + 1, 0, _, _, hk, _ => omega
      | n + 1, k + 1, 0, _, _, hj => omega
      | n + 1, k + 1, j + 1, hn, hk, hj =>
        rw [cutsK, cutsK, hc]
        simp only
        rw [cuts_enough ht n k j p.2 (by omega) (by omega) (by omega)]
theorem count_len {t : List UInt8} (ht : t ≠ []) : ∀ (n : Nat) (s : List UInt8), s.length ≤ n → Lib.count s t ≤ s.length
  | n, s, hn => by
    have h := cut_index ht s
    cases hc : cutSub t s with
    | none => rw [hc] at h; rw [Lib.count_miss h]; exact Nat.zero_le _
    | some p =>
      rw [hc] at h
      obtain ⟨h1, h2, h3⟩ := h
      have hcnt := Lib.count_hit ht h1
      rw [← h3] at hcnt
      have hsh := cut_shorter ht hc
      match n, hn with
      | 0, hn => omega
      | n + 1, hn =>
        have := count_len ht n p.2 (by omega)
        omega
/-- strings.SplitN(s, "\n", 6) -/
theorem splitN_6 (s : List UInt8) : Lib.splitK [10] 0 (min 6 (s.length + 1) - 1) s = splitN 5 s := by
  rw [splitK_cuts (by simp), splitN_cuts]
  by_cases h : 5 ≤ s.length
  · rw [show min 6 (s.length + 1) - 1 = 5 by omega]
  · have hc := count_len (t := [10]) (by simp) s.length s (Nat.le_refl _)
    exact cuts_enough (by simp) s.length _ _ s (Nat.le_refl _) (by omega) (by omega)
/-- strings.Split(s, "\nFrom - \n") -/
theorem split_sep (s : List UInt8) : Lib.splitK sepW 0 (Lib.count s sepW) s = splitAll s.length s := by
  rw [splitK_cuts (by decide), splitAll_cuts]
  exact cuts_enough (by decide) s.length _ _ s (Nat.le_refl _) (Nat.le_refl _) (count_len (by decide) s.length s (Nat.le_refl _))
end Go.Proofs.YtnekhaacapdmfaaDoor
namespace Go.Proofs.YtnekhaacapdmfaaDoor
open Go.RowKit

theorem trim_pre (s p : List UInt8) : Lib.trimPrefix s p = (dropPre p s).getD s := by
  unfold Lib.trimPrefix Lib.hasPrefix dropPre
  split <;> rfl
theorem trim_suf (s p : List UInt8) : Lib.trimSuffix s p = (dropSuf p s).getD s := by
  unfold Lib.trimSuffix Lib.hasSuffix dropSuf
  split <;> rfl
set_option maxHeartbeats 1000000 in
set_option maxRecDepth 100000 in
theorem field_any (s p q : ByteArray) (w : World) (hs : s.size ≤ 1000000000) :
    Calls Tryd.prog 25 #[.string s, .string p, .string q] w fun e w' => e = .returned (.string (toB (fieldL p.data.toList q.data.toList s.data.toList))) ∧ w' = w := by
  go_enter Tryd.func25, Tryd.ntmps25
  go_wp2_with fail
  refine (Tryd.strings_CutPrefix s p _).mono ?_
  rintro e w1 ⟨rfl, rfl⟩
  have hle : (⟨(Lib.trimPrefix s.data.toList p.data.toList).toArray⟩ : ByteArray).size ≤ 9223372036854775807 := by
    have h1 : (Lib.trimPrefix s.data.toList p.data.toList).length ≤ s.data.toList.length := by
      unfold Lib.trimPrefix
      split
      · rw [List.length_drop]; omega
      · exact Nat.le_refl _
    have h2 : (⟨(Lib.trimPrefix s.data.toList p.data.toList).toArray⟩ : ByteArray).size = (Lib.trimPrefix s.data.toList p.data.toList).length := by simp [ByteArray.size]
    rw [← Lib.size_eq] at h1
    omega
  have hE : Hid (toB (fieldL p.data.toList q.data.toList s.data.toList) = ⟨(Lib.trimSuffix (⟨(Lib.trimPrefix s.data.toList p.data.toList).toArray⟩ : ByteArray).data.toList q.data.toList).toArray⟩) := by
    rw [Hid, trim_suf]
    show toB _ = toB _
    congr 1
    unfold fieldL
    rw [trim_pre]
  generalize (⟨(Lib.trimPrefix s.data.toList p.data.toList).toArray⟩ : ByteArray) = u at hle hE ⊢
  go_wp2_with fail
  refine (Tryd.strings_CutSuffix u q _ hle).mono ?_
  rintro e w2 ⟨rfl, rfl⟩
  go_wp2_with fail
  go_ret
  exact ⟨by rw [hE.out]; rfl, rfl⟩

set_option maxHeartbeats 1000000 in
set_option maxRecDepth 100000 in
theorem starts_any (s p : ByteArray) (w : World) (hs : s.size ≤ 1000000000) (hp : p.size ≤ 1000000000) :
    Calls Tryd.prog 40 #[.string s, .string p] w fun e w' => e = .returned (.bool (p.data.toList.isPrefixOf s.data.toList)) ∧ w' = w := by
  by_cases h : p.size ≤ s.size
  · have t1 : decide ((p.size : Int) ≤ (s.size : Int)) = true := decide_eq_true (by omega)
    have hb : ((s.extract 0 p.size).toList == p.toList) = p.data.toList.isPrefixOf s.data.toList := by
      rw [Lib.toList_data, Lib.toList_data, Lib.extract_data, List.drop_zero, Nat.sub_zero, Lib.size_eq]
      rw [Bool.eq_iff_iff, beq_iff_eq, List.isPrefixOf_iff_prefix]
      constructor
      · intro e
        refine ⟨s.data.toList.drop p.data.toList.length, ?_⟩
        conv => lhs; lhs; rw [← e]
        exact List.take_append_drop _ _
      · rintro ⟨t, e⟩
        rw [← e, List.take_left]
    cases hx : p.data.toList.isPrefixOf s.data.toList with
    | true =>
      rw [hx] at hb
      go_enter Tryd.func40, Tryd.ntmps40
      go_wp2_with fail
      go_ret
      exact ⟨rfl, rfl⟩
    | false =>
      rw [hx] at hb
      go_enter Tryd.func40, Tryd.ntmps40
      go_wp2_with fail
      go_ret
      exact ⟨rfl, rfl⟩
  · have t1 : decide ((p.size : Int) ≤ (s.size : Int)) = false := decide_eq_false (by omega)
    have hx : Hid (p.data.toList.isPrefixOf s.data.toList = false) := by
      rw [Hid, Bool.eq_false_iff, ne_eq, List.isPrefixOf_iff_prefix]
      intro e
      have := e.length_le
      rw [← Lib.size_eq, ← Lib.size_eq] at this
      omega
    go_enter Tryd.func40, Tryd.ntmps40
    go_wp2_with fail
    go_ret
    exact ⟨by rw [hx.out]; rfl, rfl⟩

set_option maxHeartbeats 1000000 in
set_option maxRecDepth 100000 in
theorem ends_any (s p : ByteArray) (w : World) (hs : s.size ≤ 1000000000) (hp : p.size ≤ 1000000000) :
    Calls Tryd.prog 41 #[.string s, .string p] w fun e w' => e = .returned (.bool (p.data.toList.isSuffixOf s.data.toList)) ∧ w' = w := by
  by_cases h : p.size ≤ s.size
  · have t1 : decide ((p.size : Int) ≤ (s.size : Int)) = true := decide_eq_true (by omega)
    have hb : ((s.extract (s.size - p.size) s.size).toList == p.toList) = p.data.toList.isSuffixOf s.data.toList := by
      rw [Lib.toList_data, Lib.toList_data, Lib.extract_data, Lib.size_eq s, Lib.size_eq p]
      rw [List.take_of_length_le (by rw [List.length_drop]; omega)]
      rw [Bool.eq_iff_iff, beq_iff_eq, List.isSuffixOf_iff_suffix]
      constructor
      · intro e
        refine ⟨s.data.toList.take (s.data.toList.length - p.data.toList.length), ?_⟩
        conv => lhs; rhs; rw [← e]
        exact List.take_append_drop _ _
      · rintro ⟨t, e⟩
        rw [← e, List.length_append, Nat.add_sub_cancel, List.drop_left]
    have hsub : ((s.size : Int) - (p.size : Int)) = ((s.size - p.size : Nat) : Int) := by omega
    have HS := Lib.hid hsub
    clear hsub
    cases hx : p.data.toList.isSuffixOf s.data.toList with
    | true =>
      rw [hx] at hb
      go_enter Tryd.func41, Tryd.ntmps41
      go_wp2_with fail
      go_ret
      exact ⟨rfl, rfl⟩
    | false =>
      rw [hx] at hb
      go_enter Tryd.func41, Tryd.ntmps41
      go_wp2_with fail
      go_ret
      exact ⟨rfl, rfl⟩
  · have t1 : decide ((p.size : Int) ≤ (s.size : Int)) = false := decide_eq_false (by omega)
    have hx : Hid (p.data.toList.isSuffixOf s.data.toList = false) := by
      rw [Hid, Bool.eq_false_iff, ne_eq, List.isSuffixOf_iff_suffix]
      intro e
      have := e.length_le
      rw [← Lib.size_eq, ← Lib.size_eq] at this
      omega
    go_enter Tryd.func41, Tryd.ntmps41
    go_wp2_with fail
    go_ret
    exact ⟨by rw [hx.out]; rfl, rfl⟩
end Go.Proofs.YtnekhaacapdmfaaDoor
namespace Go.Proofs.YtnekhaacapdmfaaDoor
open Go.RowKit

theorem occ_extract (s t : ByteArray) (k : Nat) : ((s.extract k (k + t.size)).toList == t.toList) = Lib.occAt s.data.toList t.data.toList k := by
  rw [Lib.toList_data, Lib.toList_data, Lib.extract_data, Nat.add_sub_cancel_left, Lib.size_eq]
  unfold Lib.occAt
  rw [Bool.eq_iff_iff, beq_iff_eq, List.isPrefixOf_iff_prefix]
  constructor
  · intro e
    refine ⟨(s.data.toList.drop k).drop t.data.toList.length, ?_⟩
    conv => lhs; lhs; rw [← e]
    exact List.take_append_drop _ _
  · rintro ⟨u, e⟩
    rw [← e, List.take_left]
theorem occ_beyond {s t : List UInt8} {j : Nat} (h : s.length < j + t.length) : j ≤ s.length → Lib.occAt s t j = false := fun _ => by
  unfold Lib.occAt
  rw [Bool.eq_false_iff, ne_eq, List.isPrefixOf_iff_prefix]
  intro e
  have := e.length_le
  rw [List.length_drop] at this
  omega

set_option maxHeartbeats 1000000 in
set_option maxRecDepth 100000 in
theorem find_any (s t : ByteArray) (w : World) (hs : s.size ≤ 1000000000) (ht : t.size ≤ 1000000000) (ht0 : 0 < t.size) :
    Calls Tryd.prog 27 #[.string s, .string t] w fun e w' => e = .returned (.int .i64 (Lib.index s.data.toList t.data.toList)) ∧ w' = w := by
  go_enter Tryd.func27, Tryd.ntmps27
  go_wp2_with fail
  go_loop [5] (fun i => ∃ k : Nat, k ≤ s.size + 1 ∧ i = .int .i64 k ∧ Hid (∀ j, j < k → Lib.occAt s.data.toList t.data.toList j = false)) (fun i => s.size + 1 - (intOf i).toNat)
  case atStart => exact ⟨0, by omega, rfl, fun j hj => absurd hj (Nat.not_lt_zero j)⟩
  case round =>
    obtain ⟨k, hk, rfl, hno⟩ := hrel
    by_cases hlt : k + t.size ≤ s.size
    · have hb := occ_extract s t k
      cases ho : Lib.occAt s.data.toList t.data.toList k with
      | true =>
        have HF : Hid (Lib.index s.data.toList t.data.toList = k) := Lib.index_first (by rw [← Lib.size_eq]; omega) ho hno.out
        rw [ho] at hb
        clear ho hno
        go_wp2_with fail
        go_ret
        exact ⟨by rw [HF.out]; rfl, rfl⟩
      | false =>
        have hno2 : Hid (∀ j, j < k + 1 → Lib.occAt s.data.toList t.data.toList j = false) := fun j hj => by
          by_cases e : j = k
          · subst e; exact ho
          · exact hno.out j (by omega)
        rw [ho] at hb
        clear ho hno
        go_wp2_with fail
        go_round
        case rel => exact ⟨k + 1, by omega, by go_num, hno2⟩
        case measure => simp [intOf]; omega
    · have HF : Hid (Lib.index s.data.toList t.data.toList = -1) := Lib.index_none fun j hj => by
        by_cases e : j < k
        · exact hno.out j e
        · exact occ_beyond (by rw [← Lib.size_eq, ← Lib.size_eq]; omega) hj
      clear hno
      go_wp2_with fail
      go_ret
      exact ⟨by rw [HF.out]; rfl, rfl⟩
theorem find_one (s : ByteArray) (c : UInt8) (w : World) (hs : s.size ≤ 1000000000) :
    Calls Tryd.prog 27 #[.string s, .string ⟨#[c]⟩] w fun e w' => e = .returned (.int .i64 (Lib.indexByte s.data.toList c)) ∧ w' = w := by
  rw [← Lib.index_one]
  exact find_any s ⟨#[c]⟩ w hs (by show 1 ≤ _; omega) (by show 0 < 1; omega)

set_option maxHeartbeats 2000000 in
set_option maxRecDepth 100000 in
theorem refMailFault_any (m : Mail) (v : Value) (w : World) (h : Rdv w Never v m.body) (hsz : MailSz m) (hid : m.ident.size ≤ 1000000000) :
    Calls Tryd.prog 9 #[mailV m v] w fun e w' => e = .returned (.int .i64 (mailFault m)) ∧ Chg Never w w' := by
  obtain ⟨a, cap, rfl, h1, h2, _⟩ := rdv_slice h
  unfold maxLen at h2
  obtain ⟨z1, z2, z3⟩ := hsz
  obtain ⟨hA, b0, b1, b2, b3⟩ := box1_mail w 24 m.sender m.subject m.ident (.slice a m.body.length cap) _ rfl
  cases w1 : wordB m.sender.data.toList with
  | false =>
    have HF := Lib.hid (mf_word1 w1)
    go_enter Tryd.func9, Tryd.ntmps9
    go_wp2_with (first | (go_at_call 26; refine (ref_word_any _ _ (by assumption)).mono ?_; rintro e w' ⟨rfl, rfl⟩) | (go_at_call 27; refine (find_one _ _ _ (by assumption)).mono ?_; rintro e w' ⟨rfl, rfl⟩))
    go_ret
    exact ⟨by rw [HF.out]; rfl, hA⟩
  | true =>
    cases w2 : wordB m.subject.data.toList with
    | false =>
      have HF := Lib.hid (mf_word2 w2)
      go_enter Tryd.func9, Tryd.ntmps9
      go_wp2_with (first | (go_at_call 26; refine (ref_word_any _ _ (by assumption)).mono ?_; rintro e w' ⟨rfl, rfl⟩) | (go_at_call 27; refine (find_one _ _ _ (by assumption)).mono ?_; rintro e w' ⟨rfl, rfl⟩))
      go_ret
      exact ⟨by rw [HF.out]; rfl, hA⟩
    | true =>
      cases w3 : wordB m.ident.data.toList with
      | false =>
        have HF := Lib.hid (mf_word3 w3)
        go_enter Tryd.func9, Tryd.ntmps9
        go_wp2_with (first | (go_at_call 26; refine (ref_word_any _ _ (by assumption)).mono ?_; rintro e w' ⟨rfl, rfl⟩) | (go_at_call 27; refine (find_one _ _ _ (by assumption)).mono ?_; rintro e w' ⟨rfl, rfl⟩))
        go_ret
        exact ⟨by rw [HF.out]; rfl, hA⟩
      | true =>
        by_cases c1 : 60 ∈ m.ident.data.toList
        · have t1 : decide (0 ≤ Lib.indexByte m.ident.data.toList 60) = true := by rw [indexByte_nonneg]; simpa using c1
          have HF := Lib.hid (mf_lt c1)
          clear c1
          go_enter Tryd.func9, Tryd.ntmps9
          go_wp2_with (first | (go_at_call 26; refine (ref_word_any _ _ (by assumption)).mono ?_; rintro e w' ⟨rfl, rfl⟩) | (go_at_call 27; refine (find_one _ _ _ (by assumption)).mono ?_; rintro e w' ⟨rfl, rfl⟩))
          go_ret
          exact ⟨by rw [HF.out]; rfl, hA⟩
        · have t1 : decide (0 ≤ Lib.indexByte m.ident.data.toList 60) = false := by rw [indexByte_nonneg]; simpa using c1
          by_cases c2 : 62 ∈ m.ident.data.toList
          · have t2 : decide (0 ≤ Lib.indexByte m.ident.data.toList 62) = true := by rw [indexByte_nonneg]; simpa using c2
            have HF := Lib.hid (mf_gt c2)
            clear c1 c2
            go_enter Tryd.func9, Tryd.ntmps9
            go_wp2_with (first | (go_at_call 26; refine (ref_word_any _ _ (by assumption)).mono ?_; rintro e w' ⟨rfl, rfl⟩) | (go_at_call 27; refine (find_one _ _ _ (by assumption)).mono ?_; rintro e w' ⟨rfl, rfl⟩))
            go_ret
            exact ⟨by rw [HF.out]; rfl, hA⟩
          · have t2 : decide (0 ≤ Lib.indexByte m.ident.data.toList 62) = false := by rw [indexByte_nonneg]; simpa using c2
            have HR := Lib.hid (mf_rest w1 w2 w3 c1 c2)
            clear c1 c2
            by_cases hb : 40000 < m.body.length
            · have HF : Hid (mailFault m = 3) := by rw [Hid, HR.out, if_pos hb]
              go_enter Tryd.func9, Tryd.ntmps9
              go_wp2_with (first | (go_at_call 26; refine (ref_word_any _ _ (by assumption)).mono ?_; rintro e w' ⟨rfl, rfl⟩) | (go_at_call 27; refine (find_one _ _ _ (by assumption)).mono ?_; rintro e w' ⟨rfl, rfl⟩))
              go_ret
              exact ⟨by rw [HF.out]; rfl, hA⟩
            · have HF : Hid (mailFault m = 0) := by rw [Hid, HR.out, if_neg hb]
              go_enter Tryd.func9, Tryd.ntmps9
              go_wp2_with (first | (go_at_call 26; refine (ref_word_any _ _ (by assumption)).mono ?_; rintro e w' ⟨rfl, rfl⟩) | (go_at_call 27; refine (find_one _ _ _ (by assumption)).mono ?_; rintro e w' ⟨rfl, rfl⟩))
              go_ret
              exact ⟨by rw [HF.out]; rfl, hA⟩

/-- the document's text, as the walk writes it -/
def refPrintB (m : Mail) (y : ByteArray) : ByteArray := toB fromW ++ m.sender ++ toB (10 :: subjW) ++ m.subject ++ toB (10 :: idW) ++ m.ident ++ toB ([62, 10] ++ codW ++ [10, 10]) ++ y
theorem refPrintB_eq (m : Mail) : toB (mailText m) = refPrintB m (toB (encL m.body)) := by
  apply ByteArray.ext
  apply Array.toList_inj.1
  unfold refPrintB
  simp only [bytes_append, toB_data]
  unfold mailText
  simp
set_option maxHeartbeats 2000000 in
set_option maxRecDepth 100000 in
theorem mailText_any (m : Mail) (v : Value) (w : World) (h : Rdv w Never v m.body) (hz : mailFault m = 0) :
    Calls Tryd.prog 16 #[mailV m v] w fun e w' => e = .returned (.string (toB (mailText m))) ∧ Chg Never w w' := by
  have hv := h
  obtain ⟨a, cap, rfl, h1, h2, _⟩ := rdv_slice h
  unfold maxLen at h2
  obtain ⟨hA, b0, b1, b2, b3⟩ := box1_mail w 24 m.sender m.subject m.ident (.slice a m.body.length cap) _ rfl
  obtain ⟨w1, w2, w3, w4⟩ := mail_ok hz
  have s1 := word_size w1
  have s2 := word_size w2
  have s3 := word_size w3
  have hel := enc_short_len w4
  have HR := Lib.hid (refPrintB_eq m)
  have hvA := hv.never hA
  clear w1 w2 w3 hz
  obtain ⟨y, hy⟩ : ∃ y, toB (encL m.body) = y := ⟨_, rfl⟩
  have HY := Lib.hid hy
  have hyz : y.size ≤ 60000 := by rw [← hy, Lib.size_eq, toB_data]; exact hel
  rw [hy] at HR
  clear hy hel
  go_enter Tryd.func16, Tryd.ntmps16
  go_wp2_with fail
  go_quiet (first | (go_at_call 38; refine Calls.quiet_of_same ((refLetters_any m.body _ _ (hvA.never ((Chg.refl Never _).drewN _)) (by omega)).mono fun e w' hh => ⟨by rw [hh.1, HY.out], hh.2.symm⟩)))
  go_wp2_with fail
  go_ret
  exact ⟨by rw [HR.out]; rfl, hA.drewN _⟩
end Go.Proofs.YtnekhaacapdmfaaDoor
